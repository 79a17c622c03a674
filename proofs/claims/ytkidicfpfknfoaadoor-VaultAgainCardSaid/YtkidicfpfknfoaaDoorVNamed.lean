/-
  vault.room, the functions within Check; named.
-/
import Derived.Test.YtkidicfpfknfoaaDoorVNameR
import Derived.Test.YtkidicfpfknfoaaDoorVKeyM
import Derived.Test.YtkidicfpfknfoaaDoorVNear
namespace Go.Proofs.YtkidicfpfknfoaaDoor.D
set_option linter.unusedVariables false
theorem odd_room (r : Rm) : (if (decide (oddV r.tlo r.thi (-300) 600 = 7) || decide (oddV r.dlo r.dhi 0 1000 = 7) || outB r.most 0 10000000 || outB r.x 0 10000 || outB r.y 0 10000) = true then 7
    else if oddV r.tlo r.thi (-300) 600 ≠ 0 then oddV r.tlo r.thi (-300) 600 else oddV r.dlo r.dhi 0 1000) = roomE r := by
  unfold roomE oddV
  rw [outB_in, outB_in, outB_in, outB_in, outB_in, outB_in, outB_in]
  cases inB r.tlo (-300) 600 <;> cases inB r.thi (-300) 600 <;> cases inB r.dlo 0 1000 <;> cases inB r.dhi 0 1000 <;> cases inB r.most 0 10000000 <;> cases inB r.x 0 10000 <;> cases inB r.y 0 10000 <;>
    (by_cases h1 : r.thi < r.tlo <;> by_cases h2 : r.dhi < r.dlo <;> simp [h1, h2])
noncomputable def seenR (l : List Rm) : Nat → Value → Option Value
  | 0 => fun _ => none
  | k + 1 => updM (seenR l k) (.string (rmD l k).name) (.bool true)
theorem seenR_at (l : List Rm) (s : ByteArray) : ∀ k, (seenR l k (.string s)).getD (.bool false) = .bool (anyF (fun j => sameS (rmD l j).name s) k)
  | 0 => rfl
  | k + 1 => by
    rw [anyF_succ]
    by_cases h : s = (rmD l k).name
    · rw [seenR, h, updM_same, sameS_iff.2 rfl, Bool.or_true]; rfl
    · rw [seenR, updM_other (fun e => h (by simpa using e)), seenR_at l s k]
      have : sameS (rmD l k).name s = false := by
        cases hs : sameS (rmD l k).name s
        · rfl
        · exact absurd (sameS_iff.1 hs).symm h
      rw [this, Bool.or_false]
noncomputable def seenC (l : List Cn) : Nat → Value → Option Value
  | 0 => fun _ => none
  | k + 1 => updM (seenC l k) (.string (cnD l k).name) (.bool true)
theorem seenC_at (l : List Cn) (s : ByteArray) : ∀ k, (seenC l k (.string s)).getD (.bool false) = .bool (anyF (fun j => sameS (cnD l j).name s) k)
  | 0 => rfl
  | k + 1 => by
    rw [anyF_succ]
    by_cases h : s = (cnD l k).name
    · rw [seenC, h, updM_same, sameS_iff.2 rfl, Bool.or_true]; rfl
    · rw [seenC, updM_other (fun e => h (by simpa using e)), seenC_at l s k]
      have : sameS (cnD l k).name s = false := by
        cases hs : sameS (cnD l k).name s
        · rfl
        · exact absurd (sameS_iff.1 hs).symm h
      rw [this, Bool.or_false]
end Go.Proofs.YtkidicfpfknfoaaDoor.D
namespace Go.Proofs.YtkidicfpfknfoaaDoor
open Go.RowKit D
set_option linter.unusedVariables false
set_option linter.unusedSimpArgs false
attribute [local go_sem high] run_minI run_maxI
attribute [local go_sem] upon2 cls_cell cls_frozen forall_const exists_eq_left'
attribute [local go_sem] FirstUpon run_makeMap
theorem zeroBool (w : World) : (zeroValue 4).run Tryd.prog w = .ok (.bool false) w := by kernel_rfl
theorem roomName_any (r : Rm) (w : World) : Calls Tryd.prog 42 #[.agg #[.string r.name, .int .i64 r.tlo, .int .i64 r.thi, .int .i64 r.dlo, .int .i64 r.dhi, .bool r.people, .bool r.allows, .int .i64 r.most, .int .i64 r.x, .int .i64 r.y]] w fun e w' => e = .returned (.string r.name) ∧ Below w.heap.size w w' := by
  go_enter Tryd.func42, Tryd.ntmps42
  go_wp2_with (fail)
  go_ret
  exact ⟨rfl, below_alloc _ _⟩
theorem canName_any (c : Cn) (w : World) : Calls Tryd.prog 45 #[.agg #[.string c.name, .int .i64 c.base, .int .i64 c.frames, .int .i64 c.room]] w fun e w' => e = .returned (.string c.name) ∧ Below w.heap.size w w' := by
  go_enter Tryd.func45, Tryd.ntmps45
  go_wp2_with (fail)
  go_ret
  exact ⟨rfl, below_alloc _ _⟩
set_option maxRecDepth 100000 in
set_option maxHeartbeats 2000000 in
theorem room_any (r : Rm) (w : World) : Calls Tryd.prog 43 #[.agg #[.string r.name, .int .i64 r.tlo, .int .i64 r.thi, .int .i64 r.dlo, .int .i64 r.dhi, .bool r.people, .bool r.allows, .int .i64 r.most, .int .i64 r.x, .int .i64 r.y]] w fun e w' => e = .returned (.int .i64 (roomE r)) ∧ Below w.heap.size w w' := by
  obtain ⟨E, hE⟩ : ∃ E, E = roomE r := ⟨_, rfl⟩
  rw [← hE]
  rw [← odd_room] at hE
  obtain ⟨A, hA⟩ : ∃ A, A = oddV r.tlo r.thi (-300) 600 := ⟨_, rfl⟩
  obtain ⟨B, hB⟩ : ∃ B, B = oddV r.dlo r.dhi 0 1000 := ⟨_, rfl⟩
  obtain ⟨v1, hv1⟩ : ∃ v, v = outB r.most 0 10000000 := ⟨_, rfl⟩
  obtain ⟨v2, hv2⟩ : ∃ v, v = outB r.x 0 10000 := ⟨_, rfl⟩
  obtain ⟨v3, hv3⟩ : ∃ v, v = outB r.y 0 10000 := ⟨_, rfl⟩
  rw [← hA, ← hB, ← hv1, ← hv2, ← hv3] at hE
  have HE := Lib.hid hE
  have HA : Hid (∀ W, Calls Tryd.prog 47 #[.agg #[.int .i64 r.tlo, .int .i64 r.thi], .int .i64 (-300), .int .i64 600] W fun e w' => e = .returned (.int .i64 A) ∧ Below W.heap.size W w') := Lib.hid fun W => by rw [hA]; exact odd_any _ _ _ _ W
  have HB : Hid (∀ W, Calls Tryd.prog 47 #[.agg #[.int .i64 r.dlo, .int .i64 r.dhi], .int .i64 0, .int .i64 1000] W fun e w' => e = .returned (.int .i64 B) ∧ Below W.heap.size W w') := Lib.hid fun W => by rw [hB]; exact odd_any _ _ _ _ W
  have HO1 : Hid (∀ W, Calls Tryd.prog 40 #[.int .i64 r.most, .int .i64 0, .int .i64 10000000] W fun e w' => e = .returned (.bool v1) ∧ W = w') := Lib.hid fun W => by rw [hv1]; exact out_any _ _ _ W
  have HO2 : Hid (∀ W, Calls Tryd.prog 40 #[.int .i64 r.x, .int .i64 0, .int .i64 10000] W fun e w' => e = .returned (.bool v2) ∧ W = w') := Lib.hid fun W => by rw [hv2]; exact out_any _ _ _ W
  have HO3 : Hid (∀ W, Calls Tryd.prog 40 #[.int .i64 r.y, .int .i64 0, .int .i64 10000] W fun e w' => e = .returned (.bool v3) ∧ W = w') := Lib.hid fun W => by rw [hv3]; exact out_any _ _ _ W
  clear hE hA hB hv1 hv2 hv3
  go_enter Tryd.func43, Tryd.ntmps43
  go_wp2_with (fail)
  refine wp_name ?_
  intro w1 h1
  have x1 : w1.heap[w.heap.size]? = some (Obj.cells #[.string r.name, .int .i64 r.tlo, .int .i64 r.thi, .int .i64 r.dlo, .int .i64 r.dhi, .bool r.people, .bool r.allows, .int .i64 r.most, .int .i64 r.x, .int .i64 r.y] 41) := by rw [h1]; exact blk_new _ _
  have hB1 : Below w.heap.size w w1 := by rw [h1]; exact below_alloc _ _
  obtain ⟨b1, hb1⟩ : ∃ b1, b1 = w.heap.size := ⟨_, rfl⟩
  rw [← hb1] at x1 ⊢
  have X1 := Lib.hid x1
  clear h1 hb1
  have q1c := cell_blk x1
  have q1f := frz_blk x1
  refine region_ev [] [0, 1, 2, 3, 4, 5, 6, 7] [] [] (by kernel_rfl) (by kernel_rfl) (by intro c a d v w h; cases d <;> exact h) ?_
  simp only [picks, List.drop_succ_cons, List.drop_zero]
  repeat (refine wpQ0_step (fun K hK => ?_); go_simp; (refine hK _ ?_; clear hK K))
  refine wpQ0_nil ?_
  repeat ((with_reducible refine wpQ2_step (fun K hK => ?_)); go_simp; first | ((with_reducible refine hK _ ?_); clear hK K) | (apply Exists.intro; refine ⟨fun x => ?_, hK _ ?_⟩; (first | (with_reducible exact HA.out x.1) | (with_reducible exact HB.out x.1)); clear hK K))
  refine wpQ2_nil ?_
  refine Events.none_ fun w2 hg2 => ?_
  simp only [picks, List.drop_succ_cons, List.drop_zero]
  have hB2 := below_ext hB1 hg2
  clear q1c q1f x1
  have x1 := Ext2.blk hg2 X1.out
  have q1c := cell_blk x1
  have q1f := frz_blk x1
  by_cases hA7 : A = 7
  · have hbA : (A == 7) = true := by simp [hA7]
    have hE2 : E = 7 := by rw [HE.out, decide_eq_true hA7]; rfl
    have HE2 := Lib.hid hE2
    clear hE2 hA7
    go_wp2_with (fail)
    go_ret
    exact ⟨ret_int HE2.out.symm, hB2⟩
  have hbA : (A == 7) = false := by simp [hA7]
  by_cases hB7 : B = 7
  · have hbB : (B == 7) = true := by simp [hB7]
    have hE2 : E = 7 := by rw [HE.out, decide_eq_true hB7]; simp
    have HE2 := Lib.hid hE2
    clear hE2 hA7 hB7
    go_wp2_with (fail)
    go_ret
    exact ⟨ret_int HE2.out.symm, hB2⟩
  have hbB : (B == 7) = false := by simp [hB7]
  have hE2 : E = if (v1 || v2 || v3) = true then 7 else if A ≠ 0 then A else B := by rw [HE.out, decide_eq_false hA7, decide_eq_false hB7]; rfl
  have HE2 := Lib.hid hE2
  clear hE2 hA7 hB7 HE
  go_wp2_with (fail)
  (with_reducible refine (HO1.out _).mono ?_)
  rintro e w' ⟨rfl, rfl⟩
  cases v1
  case true =>
    go_wp2_with (fail)
    go_ret
    exact ⟨ret_int (by rw [HE2.out]; rfl), hB2⟩
  case false =>
  go_wp2_with (fail)
  (with_reducible refine (HO2.out _).mono ?_)
  rintro e w' ⟨rfl, rfl⟩
  cases v2
  case true =>
    go_wp2_with (fail)
    go_ret
    exact ⟨ret_int (by rw [HE2.out]; rfl), hB2⟩
  case false =>
  go_wp2_with (fail)
  (with_reducible refine (HO3.out _).mono ?_)
  rintro e w' ⟨rfl, rfl⟩
  cases v3
  case true =>
    go_wp2_with (fail)
    go_ret
    exact ⟨ret_int (by rw [HE2.out]; rfl), hB2⟩
  case false =>
  by_cases hA0 : A = 0
  · have hb0 : (A != 0) = false := by simp [hA0]
    have HA0 := Lib.hid hA0
    clear hA0
    go_wp2_with (fail)
    go_ret
    exact ⟨ret_int (by rw [HE2.out, if_neg (by simp), if_neg (not_not_intro HA0.out)]), hB2⟩
  · have hb0 : (A != 0) = true := by simp [hA0]
    have HA0 := Lib.hid hA0
    clear hA0
    go_wp2_with (fail)
    go_ret
    exact ⟨ret_int (by rw [HE2.out, if_neg (by simp), if_pos HA0.out]), hB2⟩
set_option maxRecDepth 100000 in
set_option maxHeartbeats 2000000 in
theorem can_any {S : Site} {s : SSl} {b : Nat} {c : Cn} {w : World} (hb : w.heap[b]? = some (Obj.cells #[.slice s.r.a S.rooms.length s.r.cap, .slice s.c.a S.cans.length s.c.cap, .int .i64 S.rlo, .int .i64 S.rhi, .slice s.p.a S.steps.length s.p.cap] 28)) (hr : S.rooms.length ≤ 12) : Calls Tryd.prog 46 #[.agg #[.string c.name, .int .i64 c.base, .int .i64 c.frames, .int .i64 c.room], .pointer (some ⟨b, 0, none⟩)] w fun e w' => e = .returned (.int .i64 (canE S.rooms.length c)) ∧ Below w.heap.size w w' := by
  obtain ⟨E, hE⟩ : ∃ E, E = canE S.rooms.length c := ⟨_, rfl⟩
  rw [← hE]
  unfold canE at hE
  obtain ⟨n, hn⟩ : ∃ n, n = S.rooms.length := ⟨_, rfl⟩
  rw [← hn] at hE hr hb
  obtain ⟨v1, hv1⟩ : ∃ v, v = outB c.base 1 3 := ⟨_, rfl⟩
  obtain ⟨v2, hv2⟩ : ∃ v, v = outB c.frames 1 200000 := ⟨_, rfl⟩
  obtain ⟨v3, hv3⟩ : ∃ v, v = outB c.room 0 ((n : Int) - 1) := ⟨_, rfl⟩
  rw [show inB c.base 1 3 = !v1 by rw [hv1, outB_in, Bool.not_not], show inB c.frames 1 200000 = !v2 by rw [hv2, outB_in, Bool.not_not], show inB c.room 0 ((n : Int) - 1) = !v3 by rw [hv3, outB_in, Bool.not_not]] at hE
  have HE := Lib.hid hE
  have HO1 : Hid (∀ W, Calls Tryd.prog 40 #[.int .i64 c.base, .int .i64 1, .int .i64 3] W fun e w' => e = .returned (.bool v1) ∧ W = w') := Lib.hid fun W => by rw [hv1]; exact out_any _ _ _ W
  have HO2 : Hid (∀ W, Calls Tryd.prog 40 #[.int .i64 c.frames, .int .i64 1, .int .i64 200000] W fun e w' => e = .returned (.bool v2) ∧ W = w') := Lib.hid fun W => by rw [hv2]; exact out_any _ _ _ W
  have HO3 : Hid (∀ W, Calls Tryd.prog 40 #[.int .i64 c.room, .int .i64 0, .int .i64 ((n : Int) - 1)] W fun e w' => e = .returned (.bool v3) ∧ W = w') := Lib.hid fun W => by rw [hv3]; exact out_any _ _ _ W
  have hlt := blk_lt hb
  have hne : ¬ b = w.heap.size := by omega
  clear hE hv1 hv2 hv3 hn
  have q0c := cell_blk hb
  have q0f := frz_blk hb
  go_enter Tryd.func46, Tryd.ntmps46
  go_wp2_with (fail)
  (with_reducible refine (HO1.out _).mono ?_)
  rintro e w' ⟨rfl, rfl⟩
  cases v1
  case true =>
    go_wp2_with (fail)
    go_ret
    exact ⟨ret_int (by rw [HE.out]; rfl), below_alloc _ _⟩
  case false =>
  go_wp2_with (fail)
  (with_reducible refine (HO2.out _).mono ?_)
  rintro e w' ⟨rfl, rfl⟩
  cases v2
  case true =>
    go_wp2_with (fail)
    go_ret
    exact ⟨ret_int (by rw [HE.out]; rfl), below_alloc _ _⟩
  case false =>
  go_wp2_with (fail)
  (with_reducible refine (HO3.out _).mono ?_)
  rintro e w' ⟨rfl, rfl⟩
  cases v3
  case true =>
    go_wp2_with (fail)
    go_ret
    exact ⟨ret_int (by rw [HE.out]; rfl), below_alloc _ _⟩
  case false =>
    go_wp2_with (fail)
    go_ret
    exact ⟨ret_int (by rw [HE.out]; rfl), below_alloc _ _⟩
end Go.Proofs.YtkidicfpfknfoaaDoor
