/-
  slices.IndexFunc, slices.ContainsFunc over integers and over strings.
  title.Check.
  title.must, title.caught; how a function with a deferred caught is left.
-/
import Derived.Test.YtahgbecfaihfpaaDoorTFont
import Derived.Test.YtahgbecfaihfpaaDoorDRegX
import Derived.Test.YtahgbecfaihfpaaDoorTRefA
import Derived.Test.YtahgbecfaihfpaaDoorTKeyM
import Derived.Recover
import Derived.Defers
namespace Go.Proofs.YtahgbecfaihfpaaDoor.D
def idxF (p : Nat → Bool) (n : Nat) : Int := if firstN p n < n then (firstN p n : Int) else -1
def anyF (p : Nat → Bool) (n : Nat) : Bool := decide (firstN p n < n)
def strD (l : List ByteArray) (i : Nat) : ByteArray := l.getD i ByteArray.empty
end Go.Proofs.YtahgbecfaihfpaaDoor.D
namespace Go.Proofs.YtahgbecfaihfpaaDoor
open Go.RowKit D
set_option linter.unusedVariables false
set_option linter.unusedSimpArgs false
attribute [local go_sem high] run_minI run_maxI
def strC (l : List ByteArray) (i : Nat) (_ : Nat) : Value := .string (strD l i)
abbrev StrsS (w : World) (s : Sl) (l : List ByteArray) : Prop := RowS w s 1 l.length (strC l)
theorem str_cell {w : World} {s : Sl} {l : List ByteArray} (h : StrsS w s l) {i : Nat} (hi : i < l.length) : ∃ b off, s.a = some ⟨b, off, none⟩ ∧ w.cell? ⟨b, off + i, none⟩ = some (.string (strD l i)) := by
  obtain ⟨b, off, ha, h0⟩ := h.cell i 0 hi (by omega)
  rw [Nat.mul_one, Nat.add_zero] at h0
  exact ⟨b, off, ha, h0⟩
set_option maxRecDepth 100000 in
set_option maxHeartbeats 2000000 in
theorem idxI_any {g : Nat} {lb : Array Value} {p : Nat → Bool} {s : Sl} {l : List Int} {w : World} (hs : IntsS w s l) (eg : ∀ args w, (callFunc g args).run Tryd.prog w = .ok (.enter g args) w)
    (hp : ∀ (i : Nat) (W : World), i < l.length → Below w.heap.size w W → Calls Tryd.prog g (#[.int .i64 (intD l i)] ++ lb) W fun e w' => e = .returned (.bool (p i)) ∧ Below W.heap.size W w') :
    Calls Tryd.prog 80 #[.slice s.a l.length s.cap, .func (.func g) #[] lb] w fun e w' => e = .returned (.int .i64 (idxF p l.length)) ∧ Below w.heap.size w w' := by
  have HP := Lib.hid hp; clear hp
  have hc := hs.le
  have hm := hs.max
  obtain ⟨sa, sc⟩ := s
  dsimp only at hc hm
  have HS := Lib.hid hs; clear hs
  obtain ⟨n, hn'⟩ : ∃ n, n = l.length := ⟨_, rfl⟩
  rw [← hn'] at hc ⊢
  have HN := Lib.hid hn'; clear hn'
  go_enter Tryd.func80, Tryd.ntmps80
  go_wp2_with (fail)
  go_loopw [8] (fun i wr => ∃ k : Nat, k ≤ n ∧ i = .int .i64 k ∧ (∀ j, j < k → p j = false) ∧ Below w.heap.size w wr) (fun i _ => n - (intOf i).toNat)
  case atStart => exact ⟨0, Nat.zero_le _, rfl, fun j h => absurd h (by omega), Below.refl _ _⟩
  case round =>
    obtain ⟨k, hk, rfl, hb, hB⟩ := hrel
    have HB := Lib.hid hb; clear hb
    by_cases hlt : k < n
    · obtain ⟨b, off, ha, c0⟩ := int_cell (HS.out.below hB) (i := k) (by have := HN.out; omega)
      dsimp only at ha
      subst ha
      have hpk := HP.out k wr (by have := HN.out; omega) hB
      obtain ⟨x, hx⟩ : ∃ x, x = intD l k := ⟨_, rfl⟩
      rw [← hx] at c0 hpk
      have HPK := Lib.hid hpk
      have h0 : (0 : Int) ≤ (k : Int) := by omega
      have h1 : (k : Int) < (n : Int) := by omega
      clear hpk hx
      go_wp2_with (fail)
      refine HPK.out.mono ?_
      rintro e w1 ⟨rfl, hb1⟩
      have B1 : Below w.heap.size w w1 := hB.trans (hb1.mono hB.size)
      clear hb1 c0
      have hp' : p k = true ∨ p k = false := by cases p k <;> simp
      rcases hp' with h | h
      · rw [h]
        have HM : Hid (idxF p n = (k : Int)) := Lib.hid (by unfold idxF; rw [firstN_at HB.out h hlt, if_pos hlt])
        clear h
        go_wp2_with (fail)
        go_ret
        rw [HM.out]
        exact ⟨rfl, B1⟩
      · rw [h]
        have HM := Lib.hid h; clear h
        go_wp2_with (fail)
        go_roundw
        case rel =>
          refine ⟨k + 1, by omega, by go_num, fun j hj => ?_, B1⟩
          rcases Nat.lt_or_ge j k with h' | h'
          · exact HB.out j h'
          · obtain rfl : j = k := by omega
            exact HM.out
        case measure => simp [intOf]; omega
    · obtain rfl : k = n := by omega
      have HM : Hid (idxF p k = -1) := Lib.hid (by unfold idxF; rw [firstN_none HB.out, if_neg (Nat.lt_irrefl _)])
      go_wp2_with (fail)
      go_ret
      rw [HM.out]
      exact ⟨rfl, hB⟩
set_option maxRecDepth 100000 in
set_option maxHeartbeats 2000000 in
theorem contI_any {g : Nat} {lb : Array Value} {p : Nat → Bool} {s : Sl} {l : List Int} {w : World} (hs : IntsS w s l) (eg : ∀ args w, (callFunc g args).run Tryd.prog w = .ok (.enter g args) w)
    (hp : ∀ (i : Nat) (W : World), i < l.length → Below w.heap.size w W → Calls Tryd.prog g (#[.int .i64 (intD l i)] ++ lb) W fun e w' => e = .returned (.bool (p i)) ∧ Below W.heap.size W w') :
    Calls Tryd.prog 64 #[.slice s.a l.length s.cap, .func (.func g) #[] lb] w fun e w' => e = .returned (.bool (anyF p l.length)) ∧ Below w.heap.size w w' := by
  have HC := Lib.hid (idxI_any hs eg hp)
  obtain ⟨x, hx⟩ : ∃ x, x = idxF p l.length := ⟨_, rfl⟩
  have hg : decide (0 ≤ x) = anyF p l.length := by
    rw [hx]; unfold idxF anyF
    split
    · rename_i h; rw [decide_eq_true h]; exact decide_eq_true (by omega)
    · rename_i h; rw [decide_eq_false h]; rfl
  obtain ⟨v, hv⟩ : ∃ v, v = anyF p l.length := ⟨_, rfl⟩
  rw [← hv] at hg ⊢
  rw [← hx] at HC
  clear hv hx hp hs
  go_enter Tryd.func64, Tryd.ntmps64
  go_wp2_with (fail)
  (with_reducible refine HC.out.mono ?_)
  rintro e w1 ⟨rfl, hb1⟩
  go_wp2_with (fail)
  go_ret
  exact ⟨rfl, hb1⟩
set_option maxRecDepth 100000 in
set_option maxHeartbeats 2000000 in
theorem idxS_any {g : Nat} {lb : Array Value} {p : Nat → Bool} {s : Sl} {l : List ByteArray} {w : World} (hs : StrsS w s l) (eg : ∀ args w, (callFunc g args).run Tryd.prog w = .ok (.enter g args) w)
    (hp : ∀ (i : Nat) (W : World), i < l.length → Below w.heap.size w W → Calls Tryd.prog g (#[.string (strD l i)] ++ lb) W fun e w' => e = .returned (.bool (p i)) ∧ Below W.heap.size W w') :
    Calls Tryd.prog 88 #[.slice s.a l.length s.cap, .func (.func g) #[] lb] w fun e w' => e = .returned (.int .i64 (idxF p l.length)) ∧ Below w.heap.size w w' := by
  have HP := Lib.hid hp; clear hp
  have hc := hs.le
  have hm := hs.max
  obtain ⟨sa, sc⟩ := s
  dsimp only at hc hm
  have HS := Lib.hid hs; clear hs
  obtain ⟨n, hn'⟩ : ∃ n, n = l.length := ⟨_, rfl⟩
  rw [← hn'] at hc ⊢
  have HN := Lib.hid hn'; clear hn'
  go_enter Tryd.func88, Tryd.ntmps88
  go_wp2_with (fail)
  go_loopw [8] (fun i wr => ∃ k : Nat, k ≤ n ∧ i = .int .i64 k ∧ (∀ j, j < k → p j = false) ∧ Below w.heap.size w wr) (fun i _ => n - (intOf i).toNat)
  case atStart => exact ⟨0, Nat.zero_le _, rfl, fun j h => absurd h (by omega), Below.refl _ _⟩
  case round =>
    obtain ⟨k, hk, rfl, hb, hB⟩ := hrel
    have HB := Lib.hid hb; clear hb
    by_cases hlt : k < n
    · obtain ⟨b, off, ha, c0⟩ := str_cell (HS.out.below hB) (i := k) (by have := HN.out; omega)
      dsimp only at ha
      subst ha
      have hpk := HP.out k wr (by have := HN.out; omega) hB
      obtain ⟨x, hx⟩ : ∃ x, x = strD l k := ⟨_, rfl⟩
      rw [← hx] at c0 hpk
      have HPK := Lib.hid hpk
      have h0 : (0 : Int) ≤ (k : Int) := by omega
      have h1 : (k : Int) < (n : Int) := by omega
      clear hpk hx
      go_wp2_with (fail)
      refine HPK.out.mono ?_
      rintro e w1 ⟨rfl, hb1⟩
      have B1 : Below w.heap.size w w1 := hB.trans (hb1.mono hB.size)
      clear hb1 c0
      have hp' : p k = true ∨ p k = false := by cases p k <;> simp
      rcases hp' with h | h
      · rw [h]
        have HM : Hid (idxF p n = (k : Int)) := Lib.hid (by unfold idxF; rw [firstN_at HB.out h hlt, if_pos hlt])
        clear h
        go_wp2_with (fail)
        go_ret
        rw [HM.out]
        exact ⟨rfl, B1⟩
      · rw [h]
        have HM := Lib.hid h; clear h
        go_wp2_with (fail)
        go_roundw
        case rel =>
          refine ⟨k + 1, by omega, by go_num, fun j hj => ?_, B1⟩
          rcases Nat.lt_or_ge j k with h' | h'
          · exact HB.out j h'
          · obtain rfl : j = k := by omega
            exact HM.out
        case measure => simp [intOf]; omega
    · obtain rfl : k = n := by omega
      have HM : Hid (idxF p k = -1) := Lib.hid (by unfold idxF; rw [firstN_none HB.out, if_neg (Nat.lt_irrefl _)])
      go_wp2_with (fail)
      go_ret
      rw [HM.out]
      exact ⟨rfl, hB⟩
set_option maxRecDepth 100000 in
set_option maxHeartbeats 2000000 in
theorem contS_any {g : Nat} {lb : Array Value} {p : Nat → Bool} {s : Sl} {l : List ByteArray} {w : World} (hs : StrsS w s l) (eg : ∀ args w, (callFunc g args).run Tryd.prog w = .ok (.enter g args) w)
    (hp : ∀ (i : Nat) (W : World), i < l.length → Below w.heap.size w W → Calls Tryd.prog g (#[.string (strD l i)] ++ lb) W fun e w' => e = .returned (.bool (p i)) ∧ Below W.heap.size W w') :
    Calls Tryd.prog 85 #[.slice s.a l.length s.cap, .func (.func g) #[] lb] w fun e w' => e = .returned (.bool (anyF p l.length)) ∧ Below w.heap.size w w' := by
  have HC := Lib.hid (idxS_any hs eg hp)
  obtain ⟨x, hx⟩ : ∃ x, x = idxF p l.length := ⟨_, rfl⟩
  have hg : decide (0 ≤ x) = anyF p l.length := by
    rw [hx]; unfold idxF anyF
    split
    · rename_i h; rw [decide_eq_true h]; exact decide_eq_true (by omega)
    · rename_i h; rw [decide_eq_false h]; rfl
  obtain ⟨v, hv⟩ : ∃ v, v = anyF p l.length := ⟨_, rfl⟩
  rw [← hv] at hg ⊢
  rw [← hx] at HC
  clear hv hx hp hs
  go_enter Tryd.func85, Tryd.ntmps85
  go_wp2_with (fail)
  (with_reducible refine HC.out.mono ?_)
  rintro e w1 ⟨rfl, hb1⟩
  go_wp2_with (fail)
  go_ret
  exact ⟨rfl, hb1⟩
end Go.Proofs.YtahgbecfaihfpaaDoor
namespace Go.Proofs.YtahgbecfaihfpaaDoor.D
theorem anyF_succ (p : Nat → Bool) (n : Nat) : anyF p (n + 1) = (anyF p n || p n) := by
  unfold anyF
  have hl := firstN_le p n
  rw [firstN]
  by_cases h : firstN p n < n
  · rw [if_pos h, decide_eq_true h, decide_eq_true (by omega)]; rfl
  · rw [if_neg h, decide_eq_false h]
    cases hp : p n
    · rw [if_neg (by simp), decide_eq_false (by omega)]; rfl
    · rw [if_pos rfl, decide_eq_true (by omega)]; rfl
theorem letters_odd (s : ByteArray) : lettersS s 3 = (!oddS s && !decide ((3 : Int) < (s.size : Int))) := by
  unfold lettersS oddS
  cases okS s
  · rfl
  · unfold inB
    by_cases h0 : s.size = 0
    · rw [decide_eq_true h0, decide_eq_false (by omega)]; rfl
    · by_cases h1 : (3 : Int) < (s.size : Int)
      · rw [decide_eq_false h0, decide_eq_true h1, decide_eq_false (by omega)]; rfl
      · rw [decide_eq_false h0, decide_eq_false h1, decide_eq_true (by omega)]; rfl
end Go.Proofs.YtahgbecfaihfpaaDoor.D
namespace Go.Proofs.YtahgbecfaihfpaaDoor
open Go.RowKit D
set_option linter.unusedVariables false
set_option linter.unusedSimpArgs false
attribute [local go_sem high] run_minI run_maxI
attribute [local go_sem] upon2 cls_cell cls_frozen forall_const exists_eq_left'
attribute [local go_sem] FirstUpon run_makeMap
/-- What the set of texts holds behind k glyphs. -/
noncomputable def seenF (l : List Gl) : Nat → Value → Option Value
  | 0 => fun _ => none
  | k + 1 => updM (seenF l k) (.string (glD l k).text) (.bool true)
theorem seenF_at (l : List Gl) (s : ByteArray) : ∀ k, (seenF l k (.string s)).getD (.bool false) = .bool (anyF (fun j => sameS (glD l j).text s) k)
  | 0 => rfl
  | k + 1 => by
    rw [anyF_succ]
    by_cases h : s = (glD l k).text
    · rw [seenF, h, updM_same, sameS_iff.2 rfl, Bool.or_true]; rfl
    · rw [seenF, updM_other (fun e => h (by simpa using e)), seenF_at l s k]
      have : sameS (glD l k).text s = false := by
        cases hs : sameS (glD l k).text s
        · rfl
        · exact absurd (sameS_iff.1 hs).symm h
      rw [this, Bool.or_false]
noncomputable def seenK (l : List Kn) : Nat → Value → Option Value
  | 0 => fun _ => none
  | k + 1 => updM (seenK l k) (.agg #[.int .i64 (knD l k).left, .int .i64 (knD l k).right]) (.bool true)
theorem seenK_at (l : List Kn) (a b : Int) : ∀ k, (seenK l k (.agg #[.int .i64 a, .int .i64 b])).getD (.bool false) = .bool (anyF (fun j => decide ((knD l j).left = a ∧ (knD l j).right = b)) k)
  | 0 => rfl
  | k + 1 => by
    rw [anyF_succ]
    by_cases h : (knD l k).left = a ∧ (knD l k).right = b
    · rw [seenK, h.1, h.2, updM_same, decide_eq_true ⟨rfl, rfl⟩, Bool.or_true]; rfl
    · rw [seenK, updM_other (fun e => h (by simp at e; exact ⟨e.1.symm, e.2.symm⟩)), seenK_at l a b k, decide_eq_false h, Bool.or_false]
theorem zeroBool (w : World) : (zeroValue 4).run Tryd.prog w = .ok (.bool false) w := by kernel_rfl
set_option maxRecDepth 100000 in
set_option maxHeartbeats 2000000 in
theorem chk1_any {g : Gl} {r : Sl} {n : Int} {b : Nat} {w : World} (hw : 1 ≤ g.wide ∧ g.wide ≤ 12) (h : w.heap[b]? = some (Obj.cells #[.string g.text, .int .i64 g.wide, .slice r.a g.rows.length r.cap] 41)) : Calls Tryd.prog 65 (#[.int .i64 n] ++ #[.pointer (some ⟨b, 0, none⟩)]) w fun e w' => e = .returned (.bool (outB n 0 (2 ^ g.wide.toNat - 1))) ∧ Below w.heap.size w w' := by
  obtain ⟨X, hX⟩ : ∃ X : Int, X = 2 ^ g.wide.toNat := ⟨_, rfl⟩
  obtain ⟨-, s2, s3⟩ := shl_one hw
  rw [← hX] at s2 s3 ⊢
  have s1 : wrap64 ((2 : Int) ^ g.wide.toNat) = X := by rw [← hX]; exact IntWalk.wrap64_in _ (by omega)
  have s4 : wrap64 (X - 1) = X - 1 := IntWalk.wrap64_in _ (by omega)
  clear hX
  have qc := cell_blk h
  have qf := frz_blk h
  go_enter Tryd.func65, Tryd.ntmps65
  go_wp2_with (fail)
  (with_reducible refine (out_any _ _ _ _).mono ?_)
  rintro e w' ⟨rfl, rfl⟩
  go_wp2_with (fail)
  go_ret
  exact ⟨rfl, Below.refl _ _⟩
set_option maxRecDepth 100000 in
set_option maxHeartbeats 8000000 in
theorem check_any {F : Font} {s : FSl} {w : World} (hF : FontAt w F s) : Calls Tryd.prog 30 #[.agg #[.int .i64 F.high, .int .i64 F.space, .slice s.g.a F.glyphs.length s.g.cap, .slice s.k.a F.kerns.length s.k.cap]] w fun e w' => e = .returned (.tuple #[.int .i64 (checkF F).1, .int .i64 (checkF F).2.1, .int .i64 (checkF F).2.2]) ∧ Below w.heap.size w w' := by
  have HF := Lib.hid hF
  obtain ⟨E, hE⟩ : ∃ E, E = checkF F := ⟨_, rfl⟩
  have hE' := hE
  unfold checkF at hE'
  rw [← hE]
  have HE := Lib.hid hE'
  have hgl := hF.gls.gl.le; have hgm := hF.gls.gl.max; have hkl := hF.kn.le; have hkm := hF.kn.max
  obtain ⟨v1, hv1⟩ : ∃ v, v = outB F.high 1 16 := ⟨_, rfl⟩
  obtain ⟨v2, hv2⟩ : ∃ v, v = outB F.space 1 20 := ⟨_, rfl⟩
  obtain ⟨v3, hv3⟩ : ∃ v, v = outB (F.glyphs.length : Int) 1 60 := ⟨_, rfl⟩
  have HV1 : Hid (inB F.high 1 16 = !v1) := Lib.hid (by rw [hv1, outB_in, Bool.not_not])
  have HV2 : Hid (inB F.space 1 20 = !v2) := Lib.hid (by rw [hv2, outB_in, Bool.not_not])
  have HV3 : Hid (inB (F.glyphs.length : Int) 1 60 = !v3) := Lib.hid (by rw [hv3, outB_in, Bool.not_not])
  have HO1 : Hid (∀ W, Calls Tryd.prog 55 #[.int .i64 F.high, .int .i64 1, .int .i64 16] W fun e w' => e = .returned (.bool v1) ∧ W = w') := Lib.hid fun W => by rw [hv1]; exact out_any _ _ _ W
  have HO2 : Hid (∀ W, Calls Tryd.prog 55 #[.int .i64 F.space, .int .i64 1, .int .i64 20] W fun e w' => e = .returned (.bool v2) ∧ W = w') := Lib.hid fun W => by rw [hv2]; exact out_any _ _ _ W
  have HO3 : Hid (∀ W, Calls Tryd.prog 55 #[.int .i64 (F.glyphs.length : Int), .int .i64 1, .int .i64 60] W fun e w' => e = .returned (.bool v3) ∧ W = w') := Lib.hid fun W => by rw [hv3]; exact out_any _ _ _ W
  clear hF hE hE' hv1 hv2 hv3
  go_enter Tryd.func30, Tryd.ntmps30
  go_wp2_with (fail)
  refine calls_name ?_
  intro w1 h1
  have x1 : w1.heap[w.heap.size]? = some (Obj.cells #[.int .i64 F.high, .int .i64 F.space, .slice s.g.a F.glyphs.length s.g.cap, .slice s.k.a F.kerns.length s.k.cap] 25) := by rw [h1]; repeat' (first | (with_reducible assumption) | (with_reducible refine blk_set_ne ?_ ?_) | (with_reducible exact blk_new _ _) | (with_reducible refine blk_new' _ _ (by first | (with_reducible rfl) | (simp; done) | (simp <;> omega))) | (with_reducible refine blk_alloc ?_ _) | (with_reducible refine blk_drew ?_) | (with_reducible refine blk_drewN ?_ _) | (with_reducible refine Ext2.blk (by assumption) ?_) | omega | (simp <;> omega) | exact blk_set (by assumption) _ _)
  have hB1 : Below w.heap.size w w1 := by rw [h1]; repeat' (first | exact Below.refl _ _ | assumption | refine below_drewN ?_ _ | refine Below.drew ?_ | refine Below.alloc ?_ (by first | assumption | omega | (simp <;> omega)) _ | refine Below.setCell ?_ (by first | assumption | omega | (simp <;> omega)) _ | refine Ext2.on (by assumption) ?_)
  have HX1 := Lib.hid x1
  clear h1
  (with_reducible refine (HO1.out _).mono ?_)
  rintro e w' ⟨rfl, rfl⟩
  have q1c := cell_blk x1
  have q1f := frz_blk x1
  cases v1
  case true =>
    go_wp2_with (fail)
    go_ret3
    exact ⟨by rw [HE.out, HV1.out]; rfl, hB1⟩
  case false =>
  go_wp2_with (fail)
  (with_reducible refine (HO2.out _).mono ?_)
  rintro e w' ⟨rfl, rfl⟩
  cases v2
  case true =>
    go_wp2_with (fail)
    go_ret3
    exact ⟨by rw [HE.out, HV1.out, HV2.out]; rfl, hB1⟩
  case false =>
  go_wp2_with (fail)
  (with_reducible refine (HO3.out _).mono ?_)
  rintro e w' ⟨rfl, rfl⟩
  cases v3
  case true =>
    go_wp2_with (fail)
    go_ret3
    exact ⟨by rw [HE.out, HV1.out, HV2.out, HV3.out]; rfl, hB1⟩
  case false =>
  by_cases hkn : F.kerns.length ≤ 60
  · have hkd : decide ((60 : Int) < (F.kerns.length : Int)) = false := decide_eq_false (by omega)
    have hh := of_decide_eq_true HV1.out
    have hgn := of_decide_eq_true HV3.out
    have hE2 : E = if firstN (fun i => glE F i != 0) F.glyphs.length < F.glyphs.length then ((2 : Int), ((firstN (fun i => glE F i != 0) F.glyphs.length : Nat) : Int), glE F (firstN (fun i => glE F i != 0) F.glyphs.length))
        else if firstN (fun i => knE F i != 0) F.kerns.length < F.kerns.length then ((3 : Int), ((firstN (fun i => knE F i != 0) F.kerns.length : Nat) : Int), knE F (firstN (fun i => knE F i != 0) F.kerns.length)) else (0, 0, 0) := by
      rw [HE.out, HV1.out, HV2.out, HV3.out, decide_eq_true hkn]; rfl
    have HE2 := Lib.hid hE2
    clear hE2
    obtain ⟨⟨ga, gc⟩, rs, ks⟩ := s
    obtain ⟨gb, goff, hga, -⟩ := gl_cells HF.out.gls.gl (i := 0) (by omega)
    dsimp only at hga
    subst hga
    have hgb := cell_lt (gl_cells HF.out.gls.gl (i := 0) (by omega)).choose_spec.choose_spec.2.1
    have hlt1 := blk_lt x1
    have hne1 : ¬ w.heap.size = w1.heap.size := by omega
    go_wp2_with (fail)
    refine wp_name ?_
    intro w2 h2
    obtain ⟨tb, htb⟩ : ∃ b, b = w1.heap.size := ⟨_, rfl⟩
    rw [← htb]
    have hb1t : w.heap.size < tb := by rw [htb]; exact blk_lt x1
    have hB2 : Below w.heap.size w w2 := by rw [h2]; exact hB1.alloc hB1.size _
    have x1 : w2.heap[w.heap.size]? = some (Obj.cells #[.int .i64 F.high, .int .i64 F.space, .slice (some ⟨gb, goff, none⟩) F.glyphs.length gc, .slice ks.a F.kerns.length ks.cap] 25) := by rw [h2]; exact blk_alloc x1 _
    have hm2 : MapV K1 w2 tb (seenF F.glyphs 0) := MapV.made K1 (c := 0) (by rw [h2, htb]; exact blk_new _ _)
    have HX1' := Lib.hid x1; have HM2 := Lib.hid hm2
    clear h2 htb x1 hm2 q1c q1f HX1 hB1 hlt1 hne1
    go_loopw [36] (fun p wr => ∃ k : Nat, p = .int .i64 (k : Int) ∧ k ≤ F.glyphs.length ∧ Below w.heap.size w wr ∧ wr.heap[w.heap.size]? = some (Obj.cells #[.int .i64 F.high, .int .i64 F.space, .slice (some ⟨gb, goff, none⟩) F.glyphs.length gc, .slice ks.a F.kerns.length ks.cap] 25) ∧ MapV K1 wr tb (seenF F.glyphs k) ∧ ∀ j, j < k → (glE F j != 0) = false) (fun p _ => F.glyphs.length - (intOf p).toNat)
    case atStart => exact ⟨0, rfl, by omega, hB2, HX1'.out, HM2.out, fun j hj => absurd hj (Nat.not_lt_zero j)⟩
    case round =>
      obtain ⟨k, rfl, hk, hB, x1, hm, hall⟩ := hrel
      have HALL := Lib.hid hall; have HM := Lib.hid hm
      have hmlt := hm.lt
      clear hall hm
      by_cases hlt : k < F.glyphs.length
      · go_light
        obtain ⟨_, _, h1, g0, g1, g2⟩ := gl_cells (HF.out.below hB).gls.gl (i := k) hlt
        obtain ⟨rfl, rfl⟩ : gb = _ ∧ goff = _ := by simpa using h1
        have hsz := HF.out.gls.size k hlt
        have hrow := (HF.out.below hB).gls.rows k hlt
        obtain ⟨x, hx⟩ : ∃ x, x = glD F.glyphs k := ⟨_, rfl⟩
        rw [← hx] at g0 g1 g2 hsz hrow
        obtain ⟨⟨ra, rc⟩, hr⟩ : ∃ r, r = rs k := ⟨_, rfl⟩
        dsimp only at g2 hrow
        rw [← hr] at g2 hrow
        have hrl := hrow.le
        have hrm := hrow.max
        dsimp only at hrl hrm
        have r0 : (0 : Int) ≤ (k : Int) := by omega
        have r1 : (k : Int) < (F.glyphs.length : Int) := by omega
        have w3' : IntKind.i64.wrap ((k : Int) + 1) = (k : Int) + 1 := IntWalk.i64_in _ (by omega)
        have HX := Lib.hid hx; have HR := Lib.hid hrow; have HS := Lib.hid hsz
        clear h1 hx hr hrow hsz
        go_wp2_with (fail)
        refine calls_name ?_
        intro w3 h3
        have x7 : w3.heap[wr.heap.size]? = some (Obj.cells #[.string x.text, .int .i64 x.wide, .slice ra x.rows.length rc] 41) := by rw [h3]; repeat' (first | (with_reducible assumption) | (with_reducible refine blk_set_ne ?_ ?_) | (with_reducible exact blk_new _ _) | (with_reducible refine blk_new' _ _ (by first | (with_reducible rfl) | (simp; done) | (simp <;> omega))) | (with_reducible refine blk_alloc ?_ _) | (with_reducible refine blk_drew ?_) | (with_reducible refine blk_drewN ?_ _) | (with_reducible refine Ext2.blk (by assumption) ?_) | omega | (simp <;> omega) | exact blk_set (by assumption) _ _)
        have hE3 : Ext2 wr w3 := by rw [h3]; repeat' (first | exact Below.refl _ _ | assumption | refine below_drewN ?_ _ | refine Below.drew ?_ | refine Below.alloc ?_ (by first | assumption | omega | (simp <;> omega)) _ | refine Below.setCell ?_ (by first | assumption | omega | (simp <;> omega)) _ | refine Ext2.on (by assumption) ?_)
        have x1 := Ext2.blk hE3 x1
        obtain ⟨b7, hb7⟩ : ∃ b, b = wr.heap.size := ⟨_, rfl⟩
        have hb17 : w.heap.size < b7 := by rw [hb7]; exact Nat.lt_trans hb1t hmlt
        have htb7 : tb < b7 := by rw [hb7]; exact hmlt
        rw [← hb7] at x7 ⊢
        have HXX1 := Lib.hid x1; have HXX7 := Lib.hid x7
        have HM3 := Lib.hid (HM.out.kept (hE3.block tb HM.out.lt))
        have hB3 := below_ext hB hE3
        have HR3 := Lib.hid (HR.out.below hE3)
        clear h3 g0 g1 g2 x1 hb7 HR hE3 hB HM hmlt
        obtain ⟨vo, hvo⟩ : ∃ v, v = oddS x.text := ⟨_, rfl⟩
        have hlo := letters_odd x.text
        rw [← hvo] at hlo
        have HLO := Lib.hid hlo
        (with_reducible refine (odd_any _ _).mono ?_)
        rintro e w4 ⟨rfl, hb4⟩
        rw [← hvo]
        have hE4 : Ext2 w3 w4 := hb4
        have x1 := Ext2.blk hE4 HXX1.out; have x7 := Ext2.blk hE4 HXX7.out
        have HM4 := Lib.hid (HM3.out.kept (hE4.block tb HM3.out.lt))
        have hB4 := below_ext hB3 hE4
        have HR4 := Lib.hid (HR3.out.below hE4)
        clear hvo hlo hb4 HM3 HR3 hE4 hB3
        have q1c := cell_blk x1
        have q1f := frz_blk x1
        have q7c := cell_blk x7
        have q7f := frz_blk x7
        cases vo
        case true =>
          have hg : glE F k = 6 := by unfold glE; rw [← HX.out, HLO.out]; rfl
          have HG := Lib.hid hg
          clear hg
          go_wp2_with (fail)
          go_ret3
          exact ⟨by rw [HE2.out, firstN_at HALL.out (by rw [HG.out]; rfl) hlt, if_pos hlt, HG.out]; first | done | rfl, hB4⟩
        case false =>
        by_cases h3 : (3 : Int) < (x.text.size : Int)
        · have hd3 : decide ((3 : Int) < (x.text.size : Int)) = true := decide_eq_true h3
          have hg : glE F k = 6 := by unfold glE; rw [← HX.out, HLO.out, hd3]; rfl
          have HG := Lib.hid hg
          clear hg h3
          go_wp2_with (fail)
          go_ret3
          exact ⟨by rw [HE2.out, firstN_at HALL.out (by rw [HG.out]; rfl) hlt, if_pos hlt, HG.out]; first | done | rfl, hB4⟩
        have hd3 : decide ((3 : Int) < (x.text.size : Int)) = false := decide_eq_false h3
        have HL : Hid (lettersS x.text 3 = true) := Lib.hid (by rw [HLO.out, hd3]; rfl)
        have hlk := HM4.out.lookup keyT_str Tryd.underlying118 (zeroBool w4) (k := .string x.text) (k1_str _) false
        obtain ⟨tw, htw⟩ : ∃ t, t = twice F.glyphs k := ⟨_, rfl⟩
        have hsa := seenF_at F.glyphs x.text k
        rw [show anyF (fun j => sameS (glD F.glyphs j).text x.text) k = tw by rw [htw, HX.out]; rfl] at hsa
        rw [if_neg (by simp), hsa] at hlk
        have HTW := Lib.hid htw
        clear htw hsa h3 HLO
        cases tw
        case true =>
          have hg : glE F k = 5 := by unfold glE; rw [← HX.out, HL.out, ← HTW.out]; rfl
          have HG := Lib.hid hg
          clear hg
          go_wp2_with (fail)
          go_ret3
          exact ⟨by rw [HE2.out, firstN_at HALL.out (by rw [HG.out]; rfl) hlt, if_pos hlt, HG.out]; first | done | rfl, hB4⟩
        case false =>
        obtain ⟨vw, hvw⟩ : ∃ v, v = outB x.wide 1 12 := ⟨_, rfl⟩
        have HVW : Hid (inB x.wide 1 12 = !vw) := Lib.hid (by rw [hvw, outB_in, Bool.not_not])
        have HO4 : Hid (∀ W, Calls Tryd.prog 55 #[.int .i64 x.wide, .int .i64 1, .int .i64 12] W fun e w' => e = .returned (.bool vw) ∧ W = w') := Lib.hid fun W => by rw [hvw]; exact out_any _ _ _ W
        clear hvw
        go_wp2_with (fail)
        (with_reducible refine (HO4.out _).mono ?_)
        rintro e w' ⟨rfl, rfl⟩
        cases vw
        case true =>
          have hg : glE F k = 7 := by unfold glE; rw [← HX.out, HL.out, ← HTW.out, HVW.out]; rfl
          have HG := Lib.hid hg
          clear hg
          go_wp2_with (fail)
          go_ret3
          exact ⟨by rw [HE2.out, firstN_at HALL.out (by rw [HG.out]; rfl) hlt, if_pos hlt, HG.out]; first | done | rfl, hB4⟩
        case false =>
        have hwd := of_decide_eq_true HVW.out
        by_cases hlh : (x.rows.length : Int) = F.high
        · have hnb : ((x.rows.length : Int) != F.high) = false := by simp [hlh]
          have HLH := Lib.hid hlh
          clear hlh
          obtain ⟨rbad, hrb⟩ : ∃ b, b = rowsBad x := ⟨_, rfl⟩
          have HRB := Lib.hid hrb
          have hcc : Calls Tryd.prog 64 #[.slice ra x.rows.length rc, .func (.func 65) #[] #[.pointer (some ⟨b7, 0, none⟩)]] w4 fun e w' => e = .returned (.bool rbad) ∧ Below w4.heap.size w4 w' := by
            rw [hrb]
            refine contI_any (p := rowBad x) (s := ⟨ra, rc⟩) HR4.out (fun args w => by kernel_rfl) fun i W hi hW => ?_
            have h := chk1_any (n := intD x.rows i) (r := ⟨ra, rc⟩) hwd (Ext2.blk hW x7)
            rw [outB_in] at h
            exact h
          have HCC := Lib.hid hcc
          clear hrb hcc
          go_wp2_with (fail)
          (with_reducible refine HCC.out.mono ?_)
          rintro e w5 ⟨rfl, hb5⟩
          have hE5 : Ext2 w4 w5 := hb5
          have x1 := Ext2.blk hE5 x1; have x7 := Ext2.blk hE5 x7
          have HM5 := Lib.hid (HM4.out.kept (hE5.block tb HM4.out.lt))
          have hB5 := below_ext hB4 hE5
          clear q1c q1f q7c q7f hb5 hlk HCC HM4 hE5
          have q7c := cell_blk x7
          have q7f := frz_blk x7
          cases rbad
          case true =>
            have hg : glE F k = 7 := by unfold glE; rw [← HX.out, HL.out, ← HTW.out, HVW.out, if_neg (by simp), if_neg (by simp), if_neg (by simp), if_neg (not_not_intro HLH.out), ← HRB.out]; rfl
            have HG := Lib.hid hg
            clear hg
            go_wp2_with (fail)
            go_ret3
            exact ⟨by rw [HE2.out, firstN_at HALL.out (by rw [HG.out]; rfl) hlt, if_pos hlt, HG.out]; first | done | rfl, hB5⟩
          case false =>
          have hg : glE F k = 0 := by unfold glE; rw [← HX.out, HL.out, ← HTW.out, HVW.out, if_neg (by simp), if_neg (by simp), if_neg (by simp), if_neg (not_not_intro HLH.out), ← HRB.out]; rfl
          have HG := Lib.hid hg
          clear hg
          go_wp2_with (at_mapUpdate; refine wpList_store rfl _ _ _ 118 rfl 9 4 keyT_str Tryd.underlying118 tb rfl HM5.out (.string x.text) (.bool true) rfl rfl (k1_str _) ?_; intro o' hm')
          go_roundw
          case rel =>
            refine ⟨k + 1, by go_num, by omega, below_setObj hB5 (by omega) o', ?_, ?_, fun j hj => ?_⟩
            · rw [setObj_other _ _ (by omega)]; exact x1
            · rw [seenF, ← HX.out]; exact hm'
            · rcases Nat.lt_or_ge j k with h | h
              · exact HALL.out j h
              · obtain rfl : j = k := by omega
                rw [HG.out]; rfl
          case measure => simp [intOf]; omega
        · have hnb : ((x.rows.length : Int) != F.high) = true := by simp [hlh]
          have hg : glE F k = 2 := by unfold glE; rw [← HX.out, HL.out, ← HTW.out, HVW.out, if_neg (by simp), if_neg (by simp), if_neg (by simp), if_pos hlh]
          have HG := Lib.hid hg
          clear hg hlh
          go_wp2_with (fail)
          go_ret3
          exact ⟨by rw [HE2.out, firstN_at HALL.out (by rw [HG.out]; rfl) hlt, if_pos hlt, HG.out]; first | done | rfl, hB4⟩
      · obtain rfl : k = F.glyphs.length := by omega
        have hf : firstN (fun i => glE F i != 0) F.glyphs.length = F.glyphs.length := firstN_none HALL.out
        have hE3 : E = if firstN (fun i => knE F i != 0) F.kerns.length < F.kerns.length then ((3 : Int), ((firstN (fun i => knE F i != 0) F.kerns.length : Nat) : Int), knE F (firstN (fun i => knE F i != 0) F.kerns.length)) else (0, 0, 0) := by
          rw [HE2.out, hf, if_neg (Nat.lt_irrefl _)]
        have HE3 := Lib.hid hE3
        have HWD : Hid (∀ j, j < F.glyphs.length → 1 ≤ (glD F.glyphs j).wide ∧ (glD F.glyphs j).wide ≤ 12) := Lib.hid fun j hj => (glE_wide (by have := HALL.out j hj; simpa using this)).2
        have r9 : ¬ (F.glyphs.length : Int) < (F.glyphs.length : Int) := by omega
        have hlt1 := blk_lt x1
        have hne1 : ¬ w.heap.size = wr.heap.size := by omega
        clear hf hE3 HALL hlt HM
        have q1c := cell_blk x1
        have q1f := frz_blk x1
        go_wp2_with (fail)
        refine wp_name ?_
        intro w3 h3
        obtain ⟨pb, hpb⟩ : ∃ b, b = wr.heap.size := ⟨_, rfl⟩
        rw [← hpb]
        have hb1p : w.heap.size < pb := by rw [hpb]; exact hlt1
        have hB3 : Below w.heap.size w w3 := by rw [h3]; exact hB.alloc hB.size _
        have x1 : w3.heap[w.heap.size]? = some (Obj.cells #[.int .i64 F.high, .int .i64 F.space, .slice (some ⟨gb, goff, none⟩) F.glyphs.length gc, .slice ks.a F.kerns.length ks.cap] 25) := by rw [h3]; exact blk_alloc x1 _
        have hm3 : MapV K2 w3 pb (seenK F.kerns 0) := MapV.made K2 (c := 0) (by rw [h3, hpb]; exact blk_new _ _)
        have HX3 := Lib.hid x1; have HM3 := Lib.hid hm3
        clear h3 hpb x1 hm3 q1c q1f hlt1 hne1 hB
        go_loopw [85] (fun p wr => ∃ k : Nat, p = .int .i64 (k : Int) ∧ k ≤ F.kerns.length ∧ Below w.heap.size w wr ∧ wr.heap[w.heap.size]? = some (Obj.cells #[.int .i64 F.high, .int .i64 F.space, .slice (some ⟨gb, goff, none⟩) F.glyphs.length gc, .slice ks.a F.kerns.length ks.cap] 25) ∧ MapV K2 wr pb (seenK F.kerns k) ∧ ∀ j, j < k → (knE F j != 0) = false) (fun p _ => F.kerns.length - (intOf p).toNat)
        case atStart => exact ⟨0, rfl, by omega, hB3, HX3.out, HM3.out, fun j hj => absurd hj (Nat.not_lt_zero j)⟩
        case round =>
          obtain ⟨k, rfl, hk, hB, x1, hm, hall⟩ := hrel
          have HALL := Lib.hid hall; have HM := Lib.hid hm
          have hmlt := hm.lt
          clear hall hm
          by_cases hlt : k < F.kerns.length
          · go_light
            obtain ⟨kb, koff, hka, g0, g1, g2⟩ := kn_cells (HF.out.below hB).kn hlt
            obtain ⟨ka, kc⟩ := ks
            dsimp only at hka hkl hkm x1
            subst hka
            obtain ⟨x, hx⟩ : ∃ x, x = knD F.kerns k := ⟨_, rfl⟩
            rw [← hx] at g0 g1 g2
            have r0 : (0 : Int) ≤ (k : Int) := by omega
            have r1 : (k : Int) < (F.kerns.length : Int) := by omega
            have w3' : IntKind.i64.wrap ((k : Int) + 1) = (k : Int) + 1 := IntWalk.i64_in _ (by omega)
            have wl : IntKind.i64.wrap ((F.glyphs.length : Int) - 1) = (F.glyphs.length : Int) - 1 := IntWalk.i64_in _ (by omega)
            have hlr : w.heap.size < wr.heap.size := blk_lt x1
            have hnr : ¬ w.heap.size = wr.heap.size := by omega
            have HX := Lib.hid hx
            clear hx
            have q1c := cell_blk x1
            have q1f := frz_blk x1
            go_wp2_with (fail)
            refine calls_name ?_
            intro w4 h4
            have x10 : w4.heap[wr.heap.size]? = some (Obj.cells #[.int .i64 x.left, .int .i64 x.right, .int .i64 x.by_] 62) := by rw [h4]; repeat' (first | (with_reducible assumption) | (with_reducible refine blk_set_ne ?_ ?_) | (with_reducible exact blk_new _ _) | (with_reducible refine blk_new' _ _ (by first | (with_reducible rfl) | (simp; done) | (simp <;> omega))) | (with_reducible refine blk_alloc ?_ _) | (with_reducible refine blk_drew ?_) | (with_reducible refine blk_drewN ?_ _) | (with_reducible refine Ext2.blk (by assumption) ?_) | omega | (simp <;> omega) | exact blk_set (by assumption) _ _)
            have x11 : w4.heap[wr.heap.size + 1]? = some (Obj.cells #[.int .i64 x.left, .int .i64 x.right] 123) := by rw [h4]; repeat' (first | (with_reducible assumption) | (with_reducible refine blk_set_ne ?_ ?_) | (with_reducible exact blk_new _ _) | (with_reducible refine blk_new' _ _ (by first | (with_reducible rfl) | (simp; done) | (simp <;> omega))) | (with_reducible refine blk_alloc ?_ _) | (with_reducible refine blk_drew ?_) | (with_reducible refine blk_drewN ?_ _) | (with_reducible refine Ext2.blk (by assumption) ?_) | omega | (simp <;> omega) | exact blk_set (by assumption) _ _)
            have hE4 : Ext2 wr w4 := by rw [h4]; repeat' (first | exact Below.refl _ _ | assumption | refine below_drewN ?_ _ | refine Below.drew ?_ | refine Below.alloc ?_ (by first | assumption | omega | (simp <;> omega)) _ | refine Below.setCell ?_ (by first | assumption | omega | (simp <;> omega)) _ | refine Ext2.on (by assumption) ?_)
            have x1 := Ext2.blk hE4 x1
            obtain ⟨c10, hc10⟩ : ∃ b, b = wr.heap.size := ⟨_, rfl⟩
            rw [← hc10] at x10 x11 hlr hnr ⊢
            have hpc : pb < c10 := by rw [hc10]; exact hmlt
            have HM4 := Lib.hid (HM.out.kept (hE4.block pb HM.out.lt))
            have hB4 := below_ext hB hE4
            obtain ⟨v1, hv1⟩ : ∃ v, v = outB x.left 0 (F.glyphs.length - 1) := ⟨_, rfl⟩
            obtain ⟨v2, hv2⟩ : ∃ v, v = outB x.right 0 (F.glyphs.length - 1) := ⟨_, rfl⟩
            obtain ⟨v3, hv3⟩ : ∃ v, v = outB x.by_ (-12) 12 := ⟨_, rfl⟩
            have HVL : Hid (inB x.left 0 (F.glyphs.length - 1) = !v1) := Lib.hid (by rw [hv1, outB_in, Bool.not_not])
            have HVR : Hid (inB x.right 0 (F.glyphs.length - 1) = !v2) := Lib.hid (by rw [hv2, outB_in, Bool.not_not])
            have HVB : Hid (inB x.by_ (-12) 12 = !v3) := Lib.hid (by rw [hv3, outB_in, Bool.not_not])
            have HL : Hid (∀ W, Calls Tryd.prog 55 #[.int .i64 x.left, .int .i64 0, .int .i64 ((F.glyphs.length : Int) - 1)] W fun e w' => e = .returned (.bool v1) ∧ W = w') := Lib.hid fun W => by rw [hv1]; exact out_any _ _ _ W
            have HR : Hid (∀ W, Calls Tryd.prog 55 #[.int .i64 x.right, .int .i64 0, .int .i64 ((F.glyphs.length : Int) - 1)] W fun e w' => e = .returned (.bool v2) ∧ W = w') := Lib.hid fun W => by rw [hv2]; exact out_any _ _ _ W
            have HY : Hid (∀ W, Calls Tryd.prog 55 #[.int .i64 x.by_, .int .i64 (-12), .int .i64 12] W fun e w' => e = .returned (.bool v3) ∧ W = w') := Lib.hid fun W => by rw [hv3]; exact out_any _ _ _ W
            clear h4 g0 g1 g2 hc10 hv1 hv2 hv3 q1c q1f hE4 hB HM hmlt
            have q1c := cell_blk x1
            have q1f := frz_blk x1
            have q10c := cell_blk x10
            have q10f := frz_blk x10
            have q11c := cell_blk x11
            have q11f := frz_blk x11
            (with_reducible refine (HL.out _).mono ?_)
            rintro e w' ⟨rfl, rfl⟩
            cases v1
            case true =>
              have hg : knE F k = 4 := by unfold knE; rw [← HX.out, HVL.out]; rfl
              have HG := Lib.hid hg
              clear hg
              go_wp2_with (fail)
              go_ret3
              exact ⟨by rw [HE3.out, firstN_at HALL.out (by rw [HG.out]; rfl) hlt, if_pos hlt, HG.out]; first | done | rfl, hB4⟩
            case false =>
            go_wp2_with (fail)
            (with_reducible refine (HR.out _).mono ?_)
            rintro e w' ⟨rfl, rfl⟩
            cases v2
            case true =>
              have hg : knE F k = 4 := by unfold knE; rw [← HX.out, HVL.out, HVR.out]; rfl
              have HG := Lib.hid hg
              clear hg
              go_wp2_with (fail)
              go_ret3
              exact ⟨by rw [HE3.out, firstN_at HALL.out (by rw [HG.out]; rfl) hlt, if_pos hlt, HG.out]; first | done | rfl, hB4⟩
            case false =>
            have hlk := HM4.out.lookup keyT_sides Tryd.underlying121 (zeroBool w4) (k := .agg #[.int .i64 x.left, .int .i64 x.right]) (k2_mk _ _) false
            obtain ⟨tw, htw⟩ : ∃ t, t = twiceK F.kerns k := ⟨_, rfl⟩
            have hsa := seenK_at F.kerns x.left x.right k
            rw [show anyF (fun j => decide ((knD F.kerns j).left = x.left ∧ (knD F.kerns j).right = x.right)) k = tw by rw [htw, HX.out]; rfl] at hsa
            rw [if_neg (by simp), hsa] at hlk
            have HTW := Lib.hid htw
            clear htw hsa
            cases tw
            case true =>
              have hg : knE F k = 5 := by unfold knE; rw [← HX.out, HVL.out, HVR.out, ← HTW.out]; rfl
              have HG := Lib.hid hg
              clear hg
              go_wp2_with (fail)
              go_ret3
              exact ⟨by rw [HE3.out, firstN_at HALL.out (by rw [HG.out]; rfl) hlt, if_pos hlt, HG.out]; first | done | rfl, hB4⟩
            case false =>
            go_wp2_with (fail)
            (with_reducible refine (HY.out _).mono ?_)
            rintro e w' ⟨rfl, rfl⟩
            cases v3
            case true =>
              have hg : knE F k = 7 := by unfold knE; rw [← HX.out, HVL.out, HVR.out, ← HTW.out, HVB.out]; rfl
              have HG := Lib.hid hg
              clear hg
              go_wp2_with (fail)
              go_ret3
              exact ⟨by rw [HE3.out, firstN_at HALL.out (by rw [HG.out]; rfl) hlt, if_pos hlt, HG.out]; first | done | rfl, hB4⟩
            case false =>
            have hl := of_decide_eq_true HVL.out
            have hby := of_decide_eq_true HVB.out
            obtain ⟨L, hL⟩ : ∃ L : Nat, x.left = (L : Int) := ⟨x.left.toNat, by omega⟩
            have hLn : L < F.glyphs.length := by omega
            obtain ⟨_, _, h1, -, c1, -⟩ := gl_cells (HF.out.below hB4).gls.gl (i := L) hLn
            obtain ⟨rfl, rfl⟩ : gb = _ ∧ goff = _ := by simpa using h1
            have hwL := HWD.out L hLn
            obtain ⟨d, hd⟩ : ∃ d, d = (glD F.glyphs L).wide := ⟨_, rfl⟩
            rw [← hd] at c1 hwL
            have hfin : knE F k = if d + x.by_ < 1 then 2 else 0 := by
              unfold knE
              rw [← HX.out, HVL.out, HVR.out, ← HTW.out, HVB.out, hL, hd]; rfl
            have HFIN := Lib.hid hfin
            have HLL := Lib.hid hL
            rw [hL] at x10
            have s1 : IntKind.i64.wrap (d + x.by_) = d + x.by_ := IntWalk.i64_in _ (by omega)
            have r0' : (0 : Int) ≤ (L : Int) := by omega
            have r2' : (L : Int) < (F.glyphs.length : Int) := by omega
            clear q10c q10f hl hby hL h1 hd hfin hwL hlk
            have q10c := cell_blk x10
            have q10f := frz_blk x10
            by_cases hlow : d + x.by_ < 1
            · have hg : knE F k = 2 := by rw [HFIN.out, if_pos hlow]
              have HG := Lib.hid hg
              have hd1 : decide (d + x.by_ < 1) = true := decide_eq_true hlow
              clear hg
              go_wp2_with (fail)
              refine region_ev [] [0, 1, 2, 3, 4, 5, 6, 7, 8, 9, 10, 11] [] [] (by kernel_rfl) (by kernel_rfl) (by intro c a d v w h; cases d <;> exact h) ?_
              simp only [picks, List.drop_succ_cons, List.drop_zero]
              repeat (refine wpQ0_step (fun K hK => ?_); go_simp; (refine hK _ ?_; clear hK K))
              refine wpQ0_nil ?_
              repeat ((with_reducible refine wpQ2_step (fun K hK => ?_)); go_simp; first | ((with_reducible refine hK _ ?_); clear hK K) | (apply Exists.intro; refine ⟨fun x => ?_, hK _ ?_⟩; (fail); clear hK K))
              refine wpQ2_nil ?_
              refine Events.none_ fun w5 hg5 => ?_
              simp only [picks, List.drop_succ_cons, List.drop_zero]
              have hB5 := below_ext hB4 hg5
              clear q1c q1f q10c q10f q11c q11f c1
              go_wp2_with (fail)
              go_ret3
              exact ⟨by rw [HE3.out, firstN_at HALL.out (by rw [HG.out]; rfl) hlt, if_pos hlt, HG.out]; first | done | rfl, hB5⟩
            · have hg : knE F k = 0 := by rw [HFIN.out, if_neg hlow]
              have HG := Lib.hid hg
              clear hg
              go_wp2_with (fail)
              refine region_ev [] [0, 1, 2, 3, 4, 5, 6, 7, 8, 9, 10, 11] [] [] (by kernel_rfl) (by kernel_rfl) (by intro c a d v w h; cases d <;> exact h) ?_
              simp only [picks, List.drop_succ_cons, List.drop_zero]
              repeat (refine wpQ0_step (fun K hK => ?_); go_simp; (refine hK _ ?_; clear hK K))
              refine wpQ0_nil ?_
              repeat ((with_reducible refine wpQ2_step (fun K hK => ?_)); go_simp; first | ((with_reducible refine hK _ ?_); clear hK K) | (apply Exists.intro; refine ⟨fun x => ?_, hK _ ?_⟩; (fail); clear hK K))
              refine wpQ2_nil ?_
              refine Events.none_ fun w5 hg5 => ?_
              simp only [picks, List.drop_succ_cons, List.drop_zero]
              have hE5 : Ext2 w4 w5 := hg5
              have x1 := Ext2.blk hE5 x1; have x11 := Ext2.blk hE5 x11
              have HM5 := Lib.hid (HM4.out.kept (hE5.block pb HM4.out.lt))
              have hB5 := below_ext hB4 hE5
              clear q1c q1f q10c q10f q11c q11f c1 hg5 hE5
              have q11c := cell_blk x11
              have q11f := frz_blk x11
              go_wp2_with (at_mapUpdate; refine wpList_store rfl _ _ _ 121 rfl 123 4 keyT_sides Tryd.underlying121 pb rfl HM5.out (.agg #[.int .i64 x.left, .int .i64 x.right]) (.bool true) rfl rfl (k2_mk _ _) ?_; intro o' hm')
              go_roundw
              case rel =>
                refine ⟨k + 1, by go_num, by omega, below_setObj hB5 (by omega) o', ?_, ?_, fun j hj => ?_⟩
                · rw [setObj_other _ _ (by omega)]; exact x1
                · rw [seenK, ← HX.out]; exact hm'
                · rcases Nat.lt_or_ge j k with h | h
                  · exact HALL.out j h
                  · obtain rfl : j = k := by omega
                    rw [HG.out]; rfl
              case measure => simp [intOf]; omega
          · obtain rfl : k = F.kerns.length := by omega
            have hf : firstN (fun i => knE F i != 0) F.kerns.length = F.kerns.length := firstN_none HALL.out
            have hE4 : E = (0, 0, 0) := by rw [HE3.out, hf, if_neg (Nat.lt_irrefl _)]
            have HE4 := Lib.hid hE4
            have r8 : ¬ (F.kerns.length : Int) < (F.kerns.length : Int) := by omega
            clear hf hE4 HALL hlt HM
            have q1c := cell_blk x1
            have q1f := frz_blk x1
            go_wp2_with (fail)
            go_ret3
            exact ⟨by rw [HE4.out]; first | done | rfl, hB⟩
  · have hkd : decide ((60 : Int) < (F.kerns.length : Int)) = true := decide_eq_true (by omega)
    have HKN := Lib.hid hkn
    clear hkn
    go_wp2_with (fail)
    go_ret3
    exact ⟨by rw [HE.out, HV1.out, HV2.out, HV3.out, decide_eq_false HKN.out]; rfl, hB1⟩
end Go.Proofs.YtahgbecfaihfpaaDoor
namespace Go.Proofs.YtahgbecfaihfpaaDoor
open Go.RowKit D
set_option linter.unusedVariables false
set_option linter.unusedSimpArgs false
attribute [local go_sem high] run_minI run_maxI
/-- The panic with an error. -/
def panE (e : Int) : Ending := .panicked [{ v := .iface 27 (.int .i64 e), recovered := false }]
theorem must_ok (e : Int) (w : World) : Calls Tryd.prog 47 #[.bool true, .int .i64 e] w fun en w' => en = .returned (.tuple #[]) ∧ w = w' := by
  go_enter Tryd.func47, Tryd.ntmps47
  go_wp2_with (fail)
  go_end0
  exact ⟨rfl, rfl⟩
theorem must_no (e : Int) (w : World) : Calls Tryd.prog 47 #[.bool false, .int .i64 e] w fun en w' => en = .panicked [{ v := .iface 27 (.int .i64 (e)), recovered := false }] ∧ w = w' := by
  go_enter Tryd.func47, Tryd.ntmps47
  go_wp2_with (fail)
  exact ⟨rfl, rfl, rfl⟩
/-- must, either way. -/
def doneE (b : Bool) (e : Int) : Ending := if b then .returned (.tuple #[]) else panE e
theorem must_any (b : Bool) (e : Int) (w : World) : Calls Tryd.prog 47 #[.bool b, .int .i64 e] w fun en w' => en = doneE b e ∧ w = w' := by
  cases b
  · exact must_no e w
  · exact must_ok e w
theorem caught_panicking (b : Nat) (e c : Int) (older : List PanicEntry) (w : World) (hb : w.heap[b]? = some (.cells #[.int .i64 c] 27 (0, 0))) :
    CallsD Tryd.prog 45 #[.pointer (some ⟨b, 0, none⟩)] (.panicking ({ v := .iface 27 (.int .i64 e), recovered := false } :: older)) w fun en u' w' =>
      en = .returned (.tuple #[]) ∧ u' = .panicking ({ v := .iface 27 (.int .i64 e), recovered := true } :: older) ∧ w' = w.setCell ⟨b, 0, none⟩ (.int .i64 e) := by
  have h0 : w.cell? ⟨b, 0, none⟩ = some (.int .i64 c) := by simp [World.cell?, hb]
  have f0 : w.frozen? ⟨b, 0, none⟩ = false := by simp [World.frozen?, hb]
  refine callsD_of_wpS Tryd.func45 rfl fun c₀ cs hu => ?_
  apply wpS_seq
  apply wpS_region
  simp [wpOpsS, go_sem, recoverD, hu, Tryd.ntmps45, Exit.thenS]
  apply wpS_seq
  apply wpS_region
  simp [wpOpsS, go_sem, recoverD, hu, Tryd.ntmps45, Exit.thenS]
  refine wpS_cond (t := true) (by simp [Act.eval, Array.replicate]) ?_
  simp only [if_true]
  apply wpS_region
  have ha : ∀ w, (Instr.typeAssert (.iface 27 (.int .i64 e)) 20 27 false).run Tryd.prog w = .ok (.int .i64 e) w := fun w => by kernel_rfl
  simp [wpOpsS, go_sem, ha, h0, f0, bodyPostS, results, Tryd.results45]
theorem caught_idle (p : Addr) (w : World) :
    CallsD Tryd.prog 45 #[.pointer (some p)] .returning w fun en u' w' => en = .returned (.tuple #[]) ∧ u' = .returning ∧ w' = w := by
  refine callsD_of_wpS Tryd.func45 rfl fun c₀ cs hu => ?_
  apply wpS_seq
  apply wpS_region
  simp [wpOpsS, go_sem, recoverD, hu, Tryd.ntmps45, Exit.thenS]
  apply wpS_seq
  apply wpS_region
  simp [wpOpsS, go_sem, recoverD, hu, Tryd.ntmps45, Exit.thenS]
  refine wpS_cond (t := false) (by simp [Act.eval, Array.replicate]) ?_
  simp only [Bool.false_eq_true, if_false]
  refine wpS_of_wp (wp_skip ?_)
  cases c₀
  simp_all [bodyPostS, results, Tryd.results45]
theorem settle_done (v : Value) : settle (.panicking [{ v := v, recovered := true }]) = .returning := by simp [settle]
theorem leave_panic {fn : Func} {R : Ending → World → Prop} {w1 : World} {B : Nat} {e c : Int} {tmps : Array Value} (hB : w1.heap[B]? = some (.cells #[.int .i64 c] 27 (0, 0))) (hr : Leaves Tryd.prog fn tmps R [] .returning (w1.setCell ⟨B, 0, none⟩ (.int .i64 e))) :
    bodyPostD Tryd.prog fn R (Exit.panic [{ v := .iface 27 (.int .i64 e), recovered := false }])
      { tmps := tmps, defers := [{ target := Target.fn (Fn.func 45) #[], args := #[.pointer (some ⟨B, 0, none⟩)] }] } w1 := by
  refine leaves_cons (f := 45) (args := #[.pointer (some ⟨B, 0, none⟩)]) (by simp) (by simp [go_sem]) ?_
  refine (caught_panicking B e c [] w1 hB).mono ?_
  rintro e' u' w'' ⟨rfl, rfl, rfl⟩
  dsimp only
  rw [settle_done]
  exact hr
theorem leave_done {fn : Func} {R : Ending → World → Prop} {w1 : World} {B : Nat} {tmps : Array Value} (hr : Leaves Tryd.prog fn tmps R [] .returning w1) :
    Leaves Tryd.prog fn tmps R [{ target := Target.fn (Fn.func 45) #[], args := #[.pointer (some ⟨B, 0, none⟩)] }] .returning w1 := by
  refine leaves_cons (f := 45) (args := #[.pointer (some ⟨B, 0, none⟩)]) (by simp) (by simp [go_sem]) ?_
  refine (caught_idle _ w1).mono ?_
  rintro e' u' w'' ⟨rfl, rfl, rfl⟩
  exact hr
end Go.Proofs.YtahgbecfaihfpaaDoor
