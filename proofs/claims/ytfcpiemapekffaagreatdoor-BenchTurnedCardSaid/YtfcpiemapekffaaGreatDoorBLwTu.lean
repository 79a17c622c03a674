/-
  law.BenchTurned, walked; parts of a slice of cuts.
-/
import Derived.Test.YtfcpiemapekffaaGreatDoorBAwk
import Derived.Test.YtfcpiemapekffaaGreatDoorBCutD
import Derived.Deep.Cut
import Derived.Deep.CutRange
import Derived.Deep.DeepCutAuto
namespace Go.Proofs.YtfcpiemapekffaaGreatDoor.D
theorem made_err {f : Int} {l : List Cut} : (madeV f l).2 ≠ 4 := by
  have h : ∀ {l : List Cut} {f : Int}, (madeK f l).2 ≠ 4 := by
    intro l
    induction l with
    | nil => intro f; rw [madeK]; exact (by decide : (0 : Int) ≠ 4)
    | cons c l ih =>
      intro f
      rw [madeK]
      split
      · decide
      · split
        · decide
        · exact ih
  unfold madeV
  split
  · decide
  · split
    · decide
    · exact h
theorem after_ok {f : Int} {l : List Cut} {x a : Int} (h : afterV f l x = (a, 0)) : (madeV f l).2 = 0 ∧ aft l x = some a := by
  unfold afterV at h
  split at h
  · rename_i h1; simp only [Prod.mk.injEq] at h; exact absurd h.2 h1
  · rename_i h1
    refine ⟨Decidable.not_not.1 h1, ?_⟩
    split at h
    · cases h
    · cases ha : aft l x with
      | none => rw [ha] at h; cases h
      | some b =>
        rw [ha] at h
        rw [show b = a by simpa using h]
theorem turned_lt {f : Int} {l : List Cut} {x y a b : Int} (h : afterV f l x = (a, 0)) (g : afterV f l y = (b, 0)) : decide (a < b) = decide (x < y) := by
  obtain ⟨hm, h1⟩ := after_ok h
  obtain ⟨-, h2⟩ := after_ok g
  have := aft_mono (madeV_ok hm).2.2.2 h1 h2
  exact decide_eq_decide.2 this
theorem cuts_take_ok : ∀ {l : List Cut} {f g : Int}, CutsOk f l g → ∀ i, ∃ g', CutsOk f (l.take i) g'
  | [], _, _, .nil f, i => ⟨f, by rw [List.take_nil]; exact .nil f⟩
  | c :: l, _, _, .cons h0 h1 h2 h, 0 => ⟨_, .nil _⟩
  | c :: l, _, _, .cons h0 h1 h2 h, i + 1 => by
    obtain ⟨g', hg⟩ := cuts_take_ok h i
    exact ⟨g', .cons h0 h1 h2 hg⟩
theorem cuts_hi : ∀ {l : List Cut} {f g : Int}, CutsOk f l g → g ≤ f
  | [], _, _, .nil f => Int.le_refl _
  | c :: l, _, _, .cons h0 h1 h2 h => by have := cuts_hi h; unfold long at this; omega
theorem cuts_lo : ∀ {l : List Cut} {f g : Int}, CutsOk f l g → 0 ≤ f → 0 ≤ g
  | [], _, _, .nil f, h => h
  | c :: l, _, _, .cons h0 h1 h2 h, hf => cuts_lo h (by unfold long; omega)
def leftV (f : Int) (l : List Cut) (i : Nat) : Int := f - ((l.take i).map long).sum
theorem leftV_zero {f : Int} {l : List Cut} : leftV f l 0 = f := by unfold leftV; simp
theorem leftV_succ {f : Int} {l : List Cut} {i : Nat} (h : i < l.length) : leftV f l (i + 1) = leftV f l i - ((ctD l i).until_ - (ctD l i).from_ + 1) := by
  unfold leftV ctD
  rw [List.take_add_one, List.map_append, List.sum_append, List.getD_eq_getElem?_getD, List.getElem?_eq_getElem h]
  simp [long]; omega
/-- What the law asks of the cuts. -/
structure TurnA (f : Int) (l : List Cut) (y : Int) : Prop where
  fr : 1 ≤ f ∧ f ≤ 200000
  inn : CutsIn l
  left : ∀ i, 0 ≤ leftV f l i ∧ leftV f l i ≤ 200000
  gone : 0 < l.length → (afterV f (l.take (l.length - 1)) y).2 = 4 → (afterV f l y).2 = 4
  stay : 0 < l.length → (afterV f (l.take (l.length - 1)) y).2 ≠ 4 → (afterV f (l.take (l.length - 1)) y).2 = 0 ∧ afterV (leftV f l (l.length - 1)) (l.drop (l.length - 1)) (afterV f (l.take (l.length - 1)) y).1 = afterV f l y
theorem turn_all {f : Int} {l : List Cut} {y : Int} (h : (afterV f l y).2 = 0 ∨ (afterV f l y).2 = 4) : TurnA f l y := by
  have hm : (madeV f l).2 = 0 := by
    unfold afterV at h
    by_cases h0 : (madeV f l).2 = 0
    · exact h0
    · have := made_err (f := f) (l := l)
      rw [if_pos h0] at h; simp only at h; omega
  obtain ⟨hf, -, -, hok⟩ := madeV_ok hm
  have hsp : 0 < l.length → l = l.take (l.length - 1) ++ [ctD l (l.length - 1)] ∧ l.drop (l.length - 1) = [ctD l (l.length - 1)] := fun h0 => by
    have e : l.drop (l.length - 1) = [ctD l (l.length - 1)] := by
      rw [List.drop_eq_getElem_cons (by omega), show l.length - 1 + 1 = l.length by omega, List.drop_length]
      unfold ctD
      rw [List.getD_eq_getElem?_getD, List.getElem?_eq_getElem (by omega)]; rfl
    exact ⟨by rw [← e, List.take_append_drop], e⟩
  refine ⟨hf, hok.inn hf.2, fun i => ?_, fun h0 => ?_, fun h0 => ?_⟩
  · obtain ⟨g', hg⟩ := cuts_take_ok hok i
    have h1 := made_sum hg; have h2 := cuts_lo hg (by omega); have h3 := cuts_hi hg
    unfold leftV; omega
  · obtain ⟨e, -⟩ := hsp h0
    have ht := turned_last (frames := f) (l := l.take (l.length - 1)) (c := ctD l (l.length - 1)) (x := y) (by rw [← e]; exact h) made_err
    rw [← e] at ht
    exact ht.1
  · obtain ⟨e, e2⟩ := hsp h0
    have ht := turned_last (frames := f) (l := l.take (l.length - 1)) (c := ctD l (l.length - 1)) (x := y) (by rw [← e]; exact h) made_err
    rw [← e] at ht
    rw [e2]
    exact ht.2
end Go.Proofs.YtfcpiemapekffaaGreatDoor.D
namespace Go.Proofs.YtfcpiemapekffaaGreatDoor
open Go.RowKit D
set_option linter.unusedVariables false
set_option linter.unusedSimpArgs false
attribute [local go_sem high] run_minI run_maxI
attribute [local go_sem] upon2 cls_cell cls_frozen forall_const exists_eq_left'
def takeA (a : Option Addr) (cap sz : Nat) : Option Addr := if cap = 0 then a else a.map (·.add (0 * sz))
def dropA (a : Option Addr) (cap m sz : Nat) : Option Addr := if cap = m then a else a.map (·.add (m * sz))
theorem addr_addA (b o k : Nat) : (⟨b, o, none⟩ : Addr).add k = ⟨b, o + k, none⟩ := by
  unfold Addr.add; split
  · rename_i h; rw [h]; rfl
  · rfl
theorem row_take {w : World} {s : Sl} {sz n m : Nat} {c : Nat → Nat → Value} (h : RowS w s sz n c) (hm : m ≤ n) : RowS w ⟨takeA s.a s.cap sz, s.cap⟩ sz m c := by
  have h1 := h.le; have h2 := h.max
  refine ⟨by simp only; omega, h2, fun i j hi hj => ?_⟩
  obtain ⟨b, off, ha, hc⟩ := h.cell i j (by omega) hj
  refine ⟨b, off, ?_, hc⟩
  unfold takeA
  rw [if_neg (by omega), ha, Option.map_some, addr_addA, Nat.zero_mul, Nat.add_zero]
theorem row_drop {w : World} {s : Sl} {sz n m : Nat} {c : Nat → Nat → Value} (h : RowS w s sz n c) (hm : m ≤ n) : RowS w ⟨dropA s.a s.cap m sz, s.cap - m⟩ sz (n - m) (fun i j => c (m + i) j) := by
  have h1 := h.le; have h2 := h.max
  refine ⟨by simp only; omega, by simp only; omega, fun i j hi hj => ?_⟩
  obtain ⟨b, off, ha, hc⟩ := h.cell (m + i) j (by omega) hj
  refine ⟨b, off + m * sz, ?_, ?_⟩
  · unfold dropA
    rw [if_neg (by omega), ha, Option.map_some, addr_addA]
  · rw [← hc]
    congr 2
    rw [Nat.add_mul]; omega
theorem rowS_congr {w : World} {s : Sl} {sz n : Nat} {c c' : Nat → Nat → Value} (h : RowS w s sz n c) (hc : ∀ i j, i < n → j < sz → c i j = c' i j) : RowS w s sz n c' :=
  ⟨h.le, h.max, fun i j hi hj => by
    obtain ⟨b, off, ha, h1⟩ := h.cell i j hi hj
    exact ⟨b, off, ha, by rw [h1, hc i j hi hj]⟩⟩
theorem run_cuts_to (a : Option Addr) (len cap m : Nat) (hm : m ≤ cap) (w : World) : (Instr.slice 84 (.slice a len cap) none (some (.int .i64 (m : Int))) none).run Tryz.prog w = .ok (.slice (takeA a cap 2) m cap) w := by
  rw [run_slice_h w 84 a len cap (by kernel_rfl) .i64 (m : Int) (by omega) (by omega)]
  have h : (sizeOf (Tryz.prog.elem 84)).run Tryz.prog w = .ok 2 w := by kernel_rfl
  rw [h]; rfl
theorem run_cuts_from (a : Option Addr) (len cap m : Nat) (hm : m ≤ len) (w : World) : (Instr.slice 84 (.slice a len cap) (some (.int .i64 (m : Int))) none none).run Tryz.prog w = .ok (.slice (dropA a cap m 2) (len - m) (cap - m)) w := by
  rw [run_slice_l w 84 a len cap (by kernel_rfl) .i64 (m : Int) (by omega) (by omega)]
  have h : (sizeOf (Tryz.prog.elem 84)).run Tryz.prog w = .ok 2 w := by kernel_rfl
  rw [h]; rfl
theorem cuts_take {w : World} {s : Sl} {l : List Cut} {k : Nat} (h : CutsS w s l) (hk : k ≤ l.length) : CutsS w ⟨takeA s.a s.cap 2, s.cap⟩ (l.take k) := by
  have h1 := row_take h hk
  have e : (l.take k).length = k := by rw [List.length_take]; omega
  unfold CutsS
  rw [e]
  exact rowS_congr h1 fun i j hi _ => by
    have : ctD (l.take k) i = ctD l i := by unfold ctD; simp [List.getD_eq_getElem?_getD, hi]
    unfold cutC; rw [this]
theorem cuts_drop {w : World} {s : Sl} {l : List Cut} {k : Nat} (h : CutsS w s l) (hk : k ≤ l.length) : CutsS w ⟨dropA s.a s.cap k 2, s.cap - k⟩ (l.drop k) := by
  have h1 := row_drop h hk
  have e : (l.drop k).length = l.length - k := by rw [List.length_drop]
  unfold CutsS
  rw [e]
  exact rowS_congr h1 fun i j hi _ => by
    have : ctD (l.drop k) i = ctD l (k + i) := by unfold ctD; simp [List.getD_eq_getElem?_getD]
    unfold cutC; rw [this]
attribute [local go_sem] FirstUpon atBlk_cell
attribute [local go_sem high] run_cuts_to run_cuts_from
set_option maxRecDepth 100000 in
set_option maxHeartbeats 2000000 in
theorem lawTurned_any {f : Int} {l : List Cut} {s : Sl} {x y : Int} {w : World} (hf0 : -9223372036854775808 ≤ f ∧ f ≤ 9223372036854775807) (hl : CutsS w s l) (hm : MaxAt w) : Calls Tryz.prog 12 #[.int .i64 f, .slice s.a l.length s.cap, .agg #[.int .i64 x, .int .i64 y]] w fun e w' => e = .returned (.bool true) ∧ Below w.heap.size w w' := by
  have HAF := Lib.hid fun (W : World) (hW : Ext2 w W) (x : Int) => after_any (f := f) (x := x) (RowS.below hl hW)
  have HBF := Lib.hid fun (W : World) (hW : Ext2 w W) (x : Int) => before_any (f := f) (x := x) (RowS.below hl hW)
  have HA := Lib.hid fun (W : World) (hW : Ext2 w W) => awake_any (hm.below hW)
  have HTK := Lib.hid fun (W : World) (hW : Ext2 w W) => after_any (f := f) (x := y) (cuts_take (k := l.length - 1) (RowS.below hl hW) (by omega))
  have HDR := Lib.hid fun (W : World) (hW : Ext2 w W) (g z : Int) => after_any (f := g) (x := z) (cuts_drop (k := l.length - 1) (RowS.below hl hW) (by omega))
  have hAl := turn_all (f := f) (l := l) (y := y)
  have hb := fun a => turned_back (frames := f) (l := l) (x := x) (a := a)
  have hf := fun a => turned_fore (frames := f) (l := l) (x := x) (n := a)
  have hlt := fun a b => turned_lt (f := f) (l := l) (x := x) (y := y) (a := a) (b := b)
  obtain ⟨p1, hp1⟩ : ∃ p, p = afterV f l x := ⟨_, rfl⟩
  obtain ⟨p2, hp2⟩ : ∃ p, p = afterV f l y := ⟨_, rfl⟩
  obtain ⟨p3, hp3⟩ : ∃ p, p = beforeV f l x := ⟨_, rfl⟩
  have G1 := Lib.hid fun W hW => HAF.out W hW x
  have G2 := Lib.hid fun W hW => HAF.out W hW y
  have G3 := Lib.hid fun W hW => HBF.out W hW x
  rw [← hp1] at G1 hb hlt; rw [← hp2] at G2 hlt hAl; rw [← hp3] at G3 hf
  obtain ⟨a, e1⟩ := p1
  obtain ⟨b, e2⟩ := p2
  obtain ⟨c, e3⟩ := p3
  obtain ⟨p4, hp4⟩ : ∃ p, p = afterV f (l.take (l.length - 1)) y := ⟨_, rfl⟩
  have hAl' : e2 = 0 ∨ e2 = 4 → (1 ≤ f ∧ f ≤ 200000) ∧ CutsIn l ∧ (∀ i, 0 ≤ leftV f l i ∧ leftV f l i ≤ 200000) ∧ (0 < l.length → p4.2 = 4 → e2 = 4) ∧ (0 < l.length → p4.2 ≠ 4 → p4.2 = 0 ∧ afterV (leftV f l (l.length - 1)) (l.drop (l.length - 1)) p4.1 = (b, e2)) := fun h => by
    obtain ⟨h1, h2, h3, h4, h5⟩ := hAl h
    rw [hp4, hp2]
    rw [← hp2] at h4
    exact ⟨h1, h2, h3, fun h => by first | exact h4 h | exact (by rw [hp2] at h4; exact h4 h), h5⟩
  rw [← hp4] at HTK
  obtain ⟨d, e4⟩ := p4
  have hla : 0 < l.length → ∃ b off, s.a = some ⟨b, off, none⟩ := fun h => by
    obtain ⟨b, off, h1, -⟩ := hl.cell 0 0 h (by omega)
    exact ⟨b, off, h1⟩
  have HCL := Lib.hid fun (W : World) (hW : Ext2 w W) (i : Nat) (hi : i < l.length) => cut_cells (RowS.below hl hW) hi
  have hls := fun i h => leftV_succ (f := f) (l := l) (i := i) h
  have hl0 := leftV_zero (f := f) (l := l)
  have hle := hl.le; have hmx := hl.max
  obtain ⟨sa, sc⟩ := s
  obtain ⟨m, hml⟩ : ∃ m, m = l.length := ⟨_, rfl⟩
  have HML := Lib.hid hml
  have et : (l.take (m - 1)).length = m - 1 := by rw [List.length_take, ← hml]; omega
  have ed : (l.drop (m - 1)).length = m - (m - 1) := by rw [List.length_drop, ← hml]
  rw [← hml] at G1 G2 G3 HAF HBF HTK HDR HCL hAl' hla hle ⊢
  rw [et] at HTK; rw [ed] at HDR
  obtain ⟨k, hk⟩ : ∃ k, k = m - 1 := ⟨_, rfl⟩
  rw [← hk] at HTK HDR hAl'
  have HK := Lib.hid hk
  dsimp only at G1 G2 G3 HAF HBF HTK HDR hb hf hlt hAl' HCL hla hle hmx
  have B1 : Hid (e1 = 0 → ∀ W, Ext2 w W → Calls Tryz.prog 35 #[.int .i64 f, .slice sa m sc, .int .i64 a] W fun e w' => e = .returned (.tuple #[.int .i64 x, .int .i64 0]) ∧ Ext2 W w') := Lib.hid fun h W hW => by
    have h1 := HBF.out W hW a
    rw [hb a (by rw [h])] at h1
    exact h1
  have B3 : Hid (e3 = 0 → ∀ W, Ext2 w W → Calls Tryz.prog 33 #[.int .i64 f, .slice sa m sc, .int .i64 c] W fun e w' => e = .returned (.tuple #[.int .i64 x, .int .i64 0]) ∧ Ext2 W w') := Lib.hid fun h W hW => by
    have h1 := HAF.out W hW c
    rw [hf c (by rw [h])] at h1
    exact h1
  have HLT : Hid (e1 = 0 → e2 = 0 → decide (a < b) = decide (x < y)) := Lib.hid fun h g => hlt a b (by rw [h]) (by rw [g])
  have HAL := Lib.hid hAl'; have HLA := Lib.hid hla; have HLS := Lib.hid hls; have HL0 := Lib.hid hl0
  rw [← hml] at HLS
  clear hl hm hf0 HAF HBF hp1 hp2 hp3 hp4 hml hAl hAl' hb hf hlt hla et ed hls hl0 hk
  go_enter Tryz.func12, Tryz.ntmps12
  go_upto_region 1 with (fail)
  refine wp_name ?_
  intro w3 hw3
  obtain ⟨n3, hn3⟩ : ∃ n, n = w.heap.size := ⟨_, rfl⟩
  have x3 : w3.heap[n3]? = some (.cells #[.int .i64 x, .int .i64 y] 48 (0, 0)) := by rw [hw3, hn3]; exact blk_new _ _
  have hE3 : Ext2 w w3 := by rw [hw3]; exact below_alloc' _ _
  rw [← hn3]
  have HE3 := Lib.hid hE3; have X3 := Lib.hid x3
  clear hw3 hn3 hE3
  have q3c := cell_blk x3
  have q3f := frz_blk x3
  clear x3
  go_wp2_with (fail)
  (with_reducible refine (G1.out _ HE3.out).mono ?_)
  rintro e w4 ⟨rfl, hE4⟩
  have HE4 := Lib.hid (ext_trans HE3.out hE4)
  have X4 := Lib.hid (Ext2.blk hE4 X3.out)
  have x3 := X4.out
  clear q3c q3f hE4 X3
  have q3c := cell_blk x3
  have q3f := frz_blk x3
  clear x3
  go_wp2_with (fail)
  (with_reducible refine (G2.out _ HE4.out).mono ?_)
  rintro e w5 ⟨rfl, hE5⟩
  have HE5 := Lib.hid (ext_trans HE4.out hE5)
  have X5 := Lib.hid (Ext2.blk hE5 X4.out)
  clear q3c q3f hE5 X4 HE4 HE3
  go_upto_if 40 with fail
  go_cut [11, 12] from 41 to 70 (fun v v' wx => Ext2 w5 wx)
  case first =>
    by_cases h1 : e1 = 0
    · have HH := Lib.hid (B1.out h1)
      have HL1 := HLT.out h1
      subst h1
      go_wp2_with (fail)
      (with_reducible refine (HH.out _ HE5.out).mono ?_)
      rintro e w6 ⟨rfl, hE6⟩
      have HE6 := Lib.hid hE6
      have x3 := Ext2.blk hE6 X5.out
      clear hE6
      have q3c := cell_blk x3
      have q3f := frz_blk x3
      clear x3
      have nx : (x != x) = false := by simp
      by_cases h2 : e2 = 0
      · have hl2 := HL1 h2
        subst h2
        have hn : (decide (a < b) != decide (x < y)) = false := by rw [hl2]; simp
        clear HL1
        rcases Decidable.em (a < b) with ha | ha
        · have h5 : x < y := by simpa [ha] using hl2
          have d1 : decide (a < b) = true := decide_eq_true ha
          have d2 : decide (x < y) = true := decide_eq_true h5
          clear hn hl2
          go_wp2_with (fail)
          go_meet
          case rel => exact HE6.out
        · have h5 : ¬ x < y := by simpa [ha] using hl2
          have d1 : decide (a < b) = false := decide_eq_false ha
          have d2 : decide (x < y) = false := decide_eq_false h5
          clear hn hl2
          go_wp2_with (fail)
          go_meet
          case rel => exact HE6.out
      · have d : (e2 == 0) = false := by simpa using h2
        clear HL1 h2
        go_wp2_with (fail)
        go_meet
        case rel => exact HE6.out
    · have d : (e1 == 0) = false := by simpa using h1
      clear h1
      go_wp2_with (fail)
      go_meet
      case rel => exact Below.refl _ _
  case rest =>
    have HE6 := Lib.hid (ext_trans HE5.out hcut)
    have X6 := Lib.hid (Ext2.blk hcut X5.out)
    have x3 := X6.out
    clear hcut X5 HE5 B1 HLT
    have q3c := cell_blk x3
    have q3f := frz_blk x3
    clear x3
    go_wp2_with (fail)
    (with_reducible refine (G3.out _ HE6.out).mono ?_)
    rintro e w7 ⟨rfl, hE7⟩
    have HE7 := Lib.hid (ext_trans HE6.out hE7)
    have X7 := Lib.hid (Ext2.blk hE7 X6.out)
    clear q3c q3f hE7 X6 HE6
    go_upto_if 80 with fail
    go_cut [14, 15] from 81 to 95 (fun v v' wx => Ext2 w7 wx)
    case first =>
      by_cases h3 : e3 = 0
      · have HH := Lib.hid (B3.out h3)
        subst h3
        go_wp2_with (fail)
        (with_reducible refine (HH.out _ HE7.out).mono ?_)
        rintro e w8 ⟨rfl, hE8⟩
        have HE8 := Lib.hid hE8
        have x3 := Ext2.blk hE8 X7.out
        clear hE8
        have q3c := cell_blk x3
        have q3f := frz_blk x3
        clear x3
        have nx : (x != x) = false := by simp
        go_wp2_with (fail)
        go_meet
        case rel => exact HE8.out
      · have d : (e3 == 0) = false := by simpa using h3
        clear h3
        go_wp2_with (fail)
        go_meet
        case rel => exact Below.refl _ _
    case rest =>
      obtain ⟨w8, hw8⟩ : ∃ x, x = wc := ⟨_, rfl⟩
      have HE8 := Lib.hid (ext_trans HE7.out hcut)
      have X8 := Lib.hid (Ext2.blk hcut X7.out)
      rw [← hw8] at HE8 X8 ⊢
      clear hcut hw8 X7 HE7 B3
      have HA8 := Lib.hid (HA.out _ HE8.out)
      by_cases hm0 : m = 0
      · subst hm0
        clear X8
        go_wp2_with (fail)
        (with_reducible refine HA8.out.mono ?_)
        rintro e w9 ⟨rfl, hE9⟩
        have HE9 := Lib.hid (ext_trans HE8.out hE9)
        clear hE9
        go_wp2_with (fail)
        go_ret
        exact ⟨rfl, HE9.out⟩
      obtain ⟨ba, off, rfl⟩ := HLA.out (by omega)
      have hkm : k < m := by have := HK.out; omega
      have r0 : ((m : Int) == 0) = false := by simp; omega
      have r1 : IntKind.i64.wrap ((m : Int) - 1) = (k : Int) := by rw [IntWalk.i64_in _ (by omega)]; have := HK.out; omega
      have hkc : k ≤ sc := by omega
      have hkm' : k ≤ m := by omega
      have HT8 : Hid (∀ W, Ext2 w8 W → Calls Tryz.prog 33 #[.int .i64 f, .slice (takeA (some ⟨ba, off, none⟩) sc 2) k sc, .int .i64 y] W fun e w' => e = .returned (.tuple #[.int .i64 d, .int .i64 e4]) ∧ Below W.heap.size W w') := Lib.hid fun W hW => HTK.out W (ext_trans HE8.out hW)
      have hm1 : Hid (0 < m) := Lib.hid (by omega)
      have x3 := X8.out
      clear hm0 HTK HLA HK HA8
      go_upto_region 15 with (fail)
      have q3c := cell_blk x3
      have q3f := frz_blk x3
      clear x3
      refine region_ev [] [0, 1, 2, 3, 4, 5, 6, 7, 8, 9, 10, 11] [] [] (by kernel_rfl) (by kernel_rfl) (by intro c a d v w h; cases d <;> exact h) ?_
      simp only [picks, List.drop_succ_cons, List.drop_zero]
      repeat (refine wpQ0_step (fun K hK => ?_); go_simp; (refine hK _ ?_; clear hK K))
      refine wpQ0_nil ?_
      repeat ((with_reducible refine wpQ2_step (fun K hK => ?_)); go_simp; first | ((with_reducible refine hK _ ?_); clear hK K) | (apply Exists.intro; refine ⟨fun x => ?_, hK _ ?_⟩; ((with_reducible exact HT8.out x.1 x.2)); clear hK K))
      refine wpQ2_nil ?_
      refine Events.none_ fun w9 hE9 => ?_
      simp only [picks, List.drop_succ_cons, List.drop_zero]
      have HE9 := Lib.hid (ext_trans HE8.out hE9)
      have HA9 := Lib.hid (HA.out _ HE9.out)
      clear q3c q3f hE9 HE8 X8 HT8 r0 r1
      by_cases h2 : e2 = 0 ∨ e2 = 4
      case neg =>
        have d0 : (e2 != 0) = true := by simp; omega
        have d4 : (e2 != 4) = true := by simp; omega
        clear h2
        go_wp2_with (fail)
        (with_reducible refine HA9.out.mono ?_)
        rintro e wa ⟨rfl, hEa⟩
        have HEa := Lib.hid (ext_trans HE9.out hEa)
        clear hEa
        go_wp2_with (fail)
        go_ret
        exact ⟨rfl, HEa.out⟩
      obtain ⟨hf, hin, hle2, hgo, hst⟩ := HAL.out h2
      replace hgo := hgo hm1.out; replace hst := hst hm1.out
      have HF := Lib.hid hf; have HIN := Lib.hid hin; have HLE := Lib.hid hle2; have HGO := Lib.hid hgo; have HST := Lib.hid hst
      clear hf hin hle2 hgo hst HAL HA9 hm1
      go_upto_region 16 with (fail)
      have h2 : (e2 != 0) = false ∨ ((e2 != 0) = true ∧ (e2 != 4) = false) := by rcases h2 with rfl | rfl <;> simp
      rcases h2 with h2 | ⟨h2, h22⟩
      all_goals
        go_wp2_with (fail)
        go_loopw [19, 20] (fun lv iv wr => ∃ i : Nat, iv = .int .i64 i ∧ lv = .int .i64 (leftV f l i) ∧ i ≤ k ∧ Ext2 w9 wr) (fun _ i _ => k - (intOf i).toNat)
        case atStart => exact ⟨0, rfl, by rw [HL0.out], by omega, Below.refl _ _⟩
        case round =>
          obtain ⟨i, rfl, rfl, hi, hE⟩ := hrel
          have HE := Lib.hid (ext_trans HE9.out hE)
          have HEr := Lib.hid hE
          clear hE
          by_cases hlt : i < k
          · go_light
            obtain ⟨b', off', hla, c0, c1⟩ := HCL.out _ HE.out i (by omega)
            cases hla
            have hz := HIN.out i (by rw [← HML.out]; omega)
            have hl1 := HLE.out i
            have hl2 := HLE.out (i + 1)
            have hs := HLS.out i (by omega)
            obtain ⟨z, hzz⟩ : ∃ z, z = ctD l i := ⟨_, rfl⟩
            rw [← hzz] at c0 c1 hz hs
            obtain ⟨L, hL⟩ : ∃ L, L = leftV f l i := ⟨_, rfl⟩
            rw [← hL] at hl1 hs ⊢
            have HS := Lib.hid hs
            have h0 : (0 : Int) ≤ (i : Int) := by omega
            have h1 : (i : Int) < (m : Int) := by omega
            have h2 : (i : Int) < (k : Int) := by omega
            have d0 : decide ((0 : Int) ≤ (i : Int)) = true := decide_eq_true h0
            have d1 : decide ((i : Int) < (m : Int)) = true := decide_eq_true h1
            have w0 : IntKind.i64.wrap (z.until_ - z.from_) = z.until_ - z.from_ := IntWalk.i64_in _ (by omega)
            have w1' : IntKind.i64.wrap (z.until_ - z.from_ + 1) = z.until_ - z.from_ + 1 := IntWalk.i64_in _ (by omega)
            have w2' : IntKind.i64.wrap (L - (z.until_ - z.from_ + 1)) = L - (z.until_ - z.from_ + 1) := IntWalk.i64_in _ (by omega)
            have w3' : IntKind.i64.wrap ((i : Int) + 1) = (i : Int) + 1 := IntWalk.i64_in _ (by omega)
            clear hs hzz hL hl1 hl2 hz hlt
            go_upto_region 22 with (fail)
            refine region_ev [] [0, 1, 2, 3, 4, 5, 6, 7, 8, 9, 10, 11, 12, 13, 14] [] [] (by kernel_rfl) (by kernel_rfl) (by intro c a d v w h; cases d <;> exact h) ?_
            simp only [picks, List.drop_succ_cons, List.drop_zero]
            repeat (refine wpQ0_step (fun K hK => ?_); go_simp; (refine hK _ ?_; clear hK K))
            refine wpQ0_nil ?_
            repeat ((with_reducible refine wpQ2_step (fun K hK => ?_)); go_simp; first | ((with_reducible refine hK _ ?_); clear hK K) | (apply Exists.intro; refine ⟨fun x => ?_, hK _ ?_⟩; (fail); clear hK K))
            refine wpQ2_nil ?_
            refine Events.none_ fun w7 hg7 => ?_
            simp only [picks, List.drop_succ_cons, List.drop_zero]
            have HE7 := Lib.hid (ext_trans HEr.out hg7)
            clear hg7 c0 c1
            go_wp2_with (fail)
            go_roundw
            case rel => exact ⟨i + 1, by go_num, by rw [HS.out], by omega, HE7.out⟩
            case measure => simp [intOf]; omega
          · obtain rfl : i = k := by omega
            have h3 : ¬ (i : Int) < (i : Int) := by omega
            have HAr := Lib.hid (HA.out _ HE.out)
            by_cases h4 : e4 = 4
            · have h24 := HGO.out h4
              have n4 : (e2 == 4) = true := by simp [h24]
              subst h4
              clear h24 hlt
              go_wp2_with (fail)
              (with_reducible refine HAr.out.mono ?_)
              rintro e wa ⟨rfl, hEa⟩
              have HEa := Lib.hid (ext_trans HE.out hEa)
              clear hEa
              go_wp2_with (fail)
              go_ret
              exact ⟨rfl, HEa.out⟩
            · obtain ⟨h40, hd⟩ := HST.out h4
              have d4 : (e4 == 4) = false := by simpa using h4
              subst h40
              obtain ⟨L, hL⟩ : ∃ L, L = leftV f l i := ⟨_, rfl⟩
              rw [← hL] at hd ⊢
              have HD8 : Hid (∀ W, Ext2 wr W → Calls Tryz.prog 33 #[.int .i64 L, .slice (dropA (some ⟨ba, off, none⟩) sc i 2) (m - i) (sc - i), .int .i64 d] W fun e w' => e = .returned (.tuple #[.int .i64 b, .int .i64 e2]) ∧ Below W.heap.size W w') := Lib.hid fun W hW => by
                have h := HDR.out W (ext_trans HE.out hW) L d
                rw [hd] at h
                exact h
              clear hd hL hlt h4 d4 HDR
              have hrr : Ext2 wr wr := Below.refl _ _
              go_wp2_with (fail)
              (with_reducible refine (HD8.out _ hrr).mono ?_)
              rintro e wa ⟨rfl, hEa⟩
              have HEa := Lib.hid (ext_trans HE.out hEa)
              have HAa := Lib.hid (HA.out _ HEa.out)
              clear hEa HD8
              have nb : (b == b) = true := by simp
              have ne : (e2 == e2) = true := by simp
              go_wp2_with (fail)
              (with_reducible refine HAa.out.mono ?_)
              rintro e wb ⟨rfl, hEb⟩
              have HEb := Lib.hid (ext_trans HEa.out hEb)
              clear hEb
              go_wp2_with (fail)
              go_ret
              exact ⟨rfl, HEb.out⟩
end Go.Proofs.YtfcpiemapekffaaGreatDoor
