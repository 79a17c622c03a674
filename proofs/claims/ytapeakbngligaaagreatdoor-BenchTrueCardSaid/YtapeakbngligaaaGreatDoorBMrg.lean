/-
  slices.Concat of lists of notes; bench.Merge.
-/
import Derived.Test.YtapeakbngligaaaGreatDoorBStn
import Derived.Test.YtapeakbngligaaaGreatDoorBFlm
import Derived.Shelf.Spec.SlicesGrow
import Derived.Shelf.Lay
namespace Go.Proofs
open Go.Shelf Go.RowKit Go.Lib
shelf_lay_g Lays8.n4 Nm8 4 at Tryz 58 as Tryz.growNt
namespace YtapeakbngligaaaGreatDoor
open D
set_option linter.unusedVariables false
set_option linter.unusedSimpArgs false
attribute [local go_sem high] run_minI run_maxI
attribute [local go_sem] upon2 cls_cell cls_frozen forall_const exists_eq_left'
attribute [local go_sem] FirstUpon atBlk_cell Oper.semAt_some
theorem run_append_nothing {P : Program} (w : World) (base : Nat) (t ty e : TypeId) (i : TypeInfo) (size : Nat) (ht : P.underlying t = some (.slice e)) (hi : P.info? e = some i) (v : Value) (n c : Nat) (xs : List Value) (hown : w.ownsRow base e size v n xs) :
    (Builtin.append_ #[t, t] ty #[v, .slice none 0 c]).run P w = .ok v w := by
  rcases hown.2 with ⟨rfl, rfl⟩ | ⟨g, cap, cur, rfl, _, _, hnc, _⟩
  · simp [Builtin.append_, run_underlying ht, Go.sizeOf, typeInfo, hi, Builtin.lenOf, Builtin.firstCells]
  · simp [Builtin.append_, run_underlying ht, Go.sizeOf, typeInfo, hi, Builtin.lenOf, Builtin.firstCells, hnc, storeCells]
/-- 'append(s, x...)' where x is a view. -/
theorem app_sl_at {P : Program} {t e : TypeId} {z : Value} {sz bytes : Nat} (E : Elem P t e z sz bytes) {w : World} {ops : Array Oper} {rest : List Oper} {o : Oper} {a : Act} {Q : Exit → Act → World → Prop} (hgd : o.guard = none) (s x : Operand)
    (ho : o.op = .call { callee := .builtin .append, args := #[s, x], argTypes := #[t, t] })
    (base : Nat) {v : Value} {n0 : Nat} {c0 c2 : Nat → Nat → Value} (hs : a.eval s = v) (hown : OwnR w base e sz v n0 c0) (S : Sl) (n : Nat) {c : Nat → Nat → Value} (hx : a.eval x = .slice S.a n S.cap)
    (hrow : RowS w S sz n c) (h1 : ∀ i j, (c i j).oneCell' = true) (hn : n0 + n ≤ 1000000000) (hbase : base ≤ w.heap.size)
    (e1 : ∀ i j, i < n0 → j < sz → c2 i j = c0 i j) (e2 : ∀ i j, i < n → j < sz → c2 (n0 + i) j = c i j)
    (h : ∀ v' w', OwnR w' base e sz v' (n0 + n) c2 → w.grownBy w' v.ownBlock → (v'.ownBlock = v.ownBlock ∨ v'.ownBlock = some w.heap.size) → wpList P ops Q rest (a.put o.dst v') w') : wpList P ops Q (o :: rest) a w := by
  obtain ⟨i0, hi, hz0, hz1, hz2⟩ := info_parts E.info
  have hzp := E.pos
  have hnone : S.a = none → n = 0 := fun ha => by
    rcases Nat.eq_zero_or_pos n with h0 | h0
    · exact h0
    · obtain ⟨b, off, hb, -⟩ := hrow.cell 0 0 h0 E.pos
      rw [ha] at hb; cases hb
  cases hSa : S.a with
  | none =>
    obtain rfl := hnone hSa
    rw [hSa] at hx
    refine wpList_plain hgd fun K hK' => ?_
    have hrun := run_append_nothing (P := P) w base t o.type e i0 sz E.und hi _ _ S.cap _ hown
    unfold Oper.wp
    simp [execOp, ho, resolve, invoke, builtin, hs, hx, hrun, Result.andThen]
    refine hK' _ _ ?_
    exact h v w (OwnR.congr hown fun i j hi hj => (e1 i j hi hj).symm) (World.grownBy.refl _ _) (.inl rfl)
  | some ad =>
    rw [hSa] at hx
    rcases Nat.eq_zero_or_pos n with h0 | h0
    · subst h0
      refine wpList_append_own_at _ hgd s x t ho base e i0 z sz bytes E.und hi hz0 hz1 hz2 E.zs E.pos v n0 _ hs hown ad 0 S.cap [] hx (by simp) (fun j u hu => by simp at hu) (fun u hu => by simp at hu) (by unfold maxLen; omega) ?_ hbase ?_
      · have := E.by_
        calc (n0 + 0) * bytes ≤ 1000000000 * 1000 := Nat.mul_le_mul (by omega) this
          _ ≤ 140737488355328 := by omega
      · intro v' w' h2 h3 _ h5
        rw [List.append_nil] at h2
        refine h v' w' (OwnR.congr (c := c0) h2 fun i j hi hj => (e1 i j hi hj).symm) h3 h5
    · obtain ⟨b, off, hb, -⟩ := hrow.cell 0 0 h0 E.pos
      rw [hSa] at hb
      obtain rfl : ad = ⟨b, off, none⟩ := by simpa using hb
      refine app_rows_at E hgd s x ho base hs hown b off n S.cap hx (fun i j hi hj => ?_) h1 hn hbase e1 e2 h
      obtain ⟨b', off', hb', hc⟩ := hrow.cell i j hi hj
      rw [hSa] at hb'
      obtain ⟨rfl, rfl⟩ : b = b' ∧ off = off' := by simpa using hb'
      exact hc
/-- Lists of notes in memory. -/
structure NListsS (w : World) (s : Sl) (hs : Nat → Sl) (ls : List (List Note)) : Prop where
  row : RowS w s 1 ls.length (fun i _ => .slice (hs i).a (ls.getD i []).length (hs i).cap)
  each : ∀ i, i < ls.length → NotesS w (hs i) (ls.getD i [])
  sizes : ∀ l ∈ ls, ∀ x ∈ l, x.by_.size ≤ maxLen
theorem NListsS.below {w w' : World} {s : Sl} {hs : Nat → Sl} {ls : List (List Note)} (h : NListsS w s hs ls) (hb : Below w.heap.size w w') : NListsS w' s hs ls := ⟨h.row.below hb, fun i hi => (h.each i hi).below hb, h.sizes⟩
theorem NListsS.cell {w : World} {s : Sl} {hs : Nat → Sl} {ls : List (List Note)} (h : NListsS w s hs ls) {i : Nat} (hi : i < ls.length) : ∃ b off, s.a = some ⟨b, off, none⟩ ∧ w.cell? ⟨b, off + i, none⟩ = some (.slice (hs i).a (ls.getD i []).length (hs i).cap) := by
  obtain ⟨b, off, ha, h0⟩ := h.row.cell i 0 hi (by omega)
  rw [Nat.mul_one, Nat.add_zero] at h0
  exact ⟨b, off, ha, h0⟩
theorem flat_snoc {ls : List (List Note)} {k : Nat} (hk : k < ls.length) : (ls.take (k + 1)).flatten = (ls.take k).flatten ++ ls.getD k [] := by
  rw [take_snoc (d := []) hk]; simp
theorem flat_le {ls : List (List Note)} {k : Nat} : (ls.take k).flatten.length ≤ ls.flatten.length := by
  have e : ls.flatten = (ls.take k).flatten ++ (ls.drop k).flatten := by rw [← List.flatten_append, List.take_append_drop]
  rw [e, List.length_append]; omega
theorem ntC_left {A B : List Note} {i j : Nat} (hi : i < A.length) : ntC (A ++ B) i j = ntC A i j := by
  have : ntD (A ++ B) i = ntD A i := by unfold ntD; rw [List.getD_eq_getElem?_getD, List.getD_eq_getElem?_getD, List.getElem?_append_left hi]
  unfold ntC; rw [this]
theorem ntC_right {A B : List Note} {i j : Nat} : ntC (A ++ B) (A.length + i) j = ntC B i j := by
  have : ntD (A ++ B) (A.length + i) = ntD B i := by unfold ntD; rw [List.getD_eq_getElem?_getD, List.getD_eq_getElem?_getD, List.getElem?_append_right (by omega), Nat.add_sub_cancel_left]
  unfold ntC; rw [this]
theorem own_grown {w : World} {base b n G : Nat} {c : Nat → Nat → Value} (hb : w.heap[b]? = some (.cells (([] : List Value).toArray ++ Builtin.zeroCells (Value.agg #[.string ByteArray.empty, .int .i64 0, .int .i64 0, .int .i64 0, .int .i64 0, .int .i64 0, .int .i64 0, .int .i64 0]).cells n ++ Builtin.zeroCells (Value.agg #[.string ByteArray.empty, .int .i64 0, .int .i64 0, .int .i64 0, .int .i64 0, .int .i64 0, .int .i64 0, .int .i64 0]).cells (G - n)) 58 (0, 0))) (hn : n ≤ G) (hG : G ≤ maxLen) (hle : base ≤ b) : OwnR w base 58 8 (.slice (some ⟨b, 0, none⟩) 0 G) 0 c := by
  have hz : (Value.agg #[.string ByteArray.empty, .int .i64 0, .int .i64 0, .int .i64 0, .int .i64 0, .int .i64 0, .int .i64 0, .int .i64 0]).cells.size = 8 := by kernel_rfl
  refine ⟨by simp [cellsOf], .inr ⟨b, G, _, rfl, hle, hb, by omega, hG, ?_, by simp [cellsOf]⟩⟩
  simp only [Array.size_append, size_zeroCells, hz, List.size_toArray, List.length_nil]
  omega
theorem own_ge {w : World} {base : Nat} {e : TypeId} {sz : Nat} {v : Value} {n : Nat} {c : Nat → Nat → Value} (h : OwnR w base e sz v n c) : ∀ k, v.ownBlock = some k → base ≤ k := fun k hk => (World.ownsRow.lt h k hk).1
theorem grow_any {n : Nat} (hn : n ≤ 1000000) (w : World) (c : Nat → Nat → Value) : Calls Tryz.prog 58 #[.slice none 0 0, .int .i64 n] w fun e w' => ∃ v, e = .returned v ∧ OwnR w' w.heap.size 58 8 v 0 c ∧ Below w.heap.size w w' := by
  rcases Nat.eq_zero_or_pos n with h0 | h0
  · subst h0
    refine (Any8.slices_Grow_room Tryz.growNt none 0 0 0 w (by omega) (by omega) (by omega) (by omega)).mono ?_
    rintro e w' ⟨rfl, rfl⟩
    exact ⟨_, rfl, own_nil _ _ _ _ _, Below.refl _ _⟩
  · obtain ⟨i0, hi, hz0, hz1, hz2⟩ := info_parts elNote.info
    refine (Any8.slices_Grow_grow Tryz.growNt i0 _ hi hz0 (by rw [hz1]; omega) none 0 0 n [] w (by omega) (by omega) (by rw [hz2]; omega) (by omega) (by simp) (fun _ => rfl) (fun a h => by cases h)).mono ?_
    rintro e w' ⟨rfl, rfl⟩
    refine ⟨_, rfl, own_grown (n := n) (by rw [Nat.zero_add]; exact blk_new' _ _ rfl) ?_ ?_ (Nat.le_refl _), ?_⟩
    · have := grownCap_ge w (0 + n) 0 58; rw [Nat.zero_add] at this ⊢; exact this
    · exact grownCap_le_maxLen _ _ _ _ (by unfold maxLen; omega)
    · exact have h := below_alloc w.drew _; ⟨h.os, h.tape, h.output, h.size, h.block⟩
set_option maxRecDepth 100000 in
set_option maxHeartbeats 2000000 in
theorem concat_any {ls : List (List Note)} {s : Sl} {hs : Nat → Sl} {w : World} (h : NListsS w s hs ls) (hn : ls.flatten.length ≤ 1000000) (hk : ls.length ≤ 1000000) : Calls Tryz.prog 35 #[.slice s.a ls.length s.cap] w fun e w' => (∃ s' : Sl, e = .returned (.slice s'.a ls.flatten.length s'.cap) ∧ NotesS w' s' ls.flatten) ∧ Below w.heap.size w w' := by
  have HS := Lib.hid h
  have hle := h.row.le; have hmx := h.row.max
  obtain ⟨sa, sc⟩ := s
  dsimp only at hle hmx
  clear h
  obtain ⟨m, hm⟩ : ∃ m, m = ls.length := ⟨_, rfl⟩
  rw [← hm] at hle hk ⊢
  have HM := Lib.hid hm
  have HN := Lib.hid hn
  have HFL := Lib.hid fun k => flat_le (ls := ls) (k := k)
  clear hm hn
  go_enter Tryz.func35, Tryz.ntmps35
  go_wp2_with (fail)
  go_loopw [3, 11] (fun z i wr => ∃ k : Nat, z = .int .i64 ((ls.take k).flatten.length : Nat) ∧ i = .int .i64 k ∧ k ≤ m ∧ wr = w) (fun _ i _ => m - (intOf i).toNat)
  case atStart => exact ⟨0, rfl, rfl, by omega, rfl⟩
  case round =>
    obtain ⟨k, rfl, rfl, hk2, hwr⟩ := hrel
    have hwr := hwr.symm
    subst hwr
    by_cases hlt : k < m
    · go_light
      have hkl : k < ls.length := by rw [← HM.out]; exact hlt
      obtain ⟨b, off, hsa, c0⟩ := HS.out.cell hkl
      dsimp only at hsa
      subst hsa
      have hf := flat_snoc hkl
      have hb1 := HFL.out (k + 1); have hb0 := HFL.out k; have hb2 := HN.out
      rw [hf, List.length_append] at hb1
      have HF := Lib.hid hf
      obtain ⟨A, hA⟩ : ∃ A, A = (ls.take k).flatten.length := ⟨_, rfl⟩
      obtain ⟨L, hL⟩ : ∃ L, L = (ls.getD k []).length := ⟨_, rfl⟩
      rw [← hA] at hb0 hb1 ⊢; rw [← hL] at hb1 c0
      have HA := Lib.hid hA; have HL := Lib.hid hL
      have h0 : (0 : Int) ≤ (k : Int) := by omega
      have h1 : (k : Int) < (m : Int) := by omega
      have w2' : IntKind.i64.wrap ((k : Int) + 1) = (k : Int) + 1 := IntWalk.i64_in _ (by omega)
      have w3' : IntKind.i64.wrap ((A : Int) + (L : Int)) = (A : Int) + (L : Int) := IntWalk.i64_in _ (by omega)
      have w4' : wrap64 ((A : Int) + (L : Int)) = (A : Int) + (L : Int) := IntWalk.wrap64_in _ (by omega)
      have w5' : ¬ ((A : Int) + (L : Int) < 0) := Int.not_lt.2 (Int.add_nonneg (Int.natCast_nonneg _) (Int.natCast_nonneg _))
      clear hf hA hL hb1 hb0 hb2 hkl
      go_wp2_with (fail)
      go_roundw
      case rel => exact ⟨k + 1, by rw [HF.out, List.length_append, ← HA.out, ← HL.out]; go_num, by go_num, by omega, trivial⟩
      case measure => simp [intOf]; omega
    · obtain rfl : m = k := by omega
      rw [show ls.take m = ls from List.take_of_length_le (by rw [HM.out]; exact Nat.le_refl _)]
      obtain ⟨N, hN⟩ : ∃ N, N = ls.flatten.length := ⟨_, rfl⟩
      have hN2 := HN.out
      rw [← hN] at hN2 ⊢
      have HNN := Lib.hid hN
      have HG := Lib.hid fun W => grow_any hN2 W (ntC [])
      have HB := Lib.hid hN2
      clear hN hN2
      go_wp2_with (fail)
      refine (HG.out _).mono ?_
      rintro e w4 ⟨v, rfl, hO, hE4⟩
      have HE4 := Lib.hid hE4; have HO := Lib.hid hO
      clear hO hE4
      go_wp2_with (fail)
      go_loopw [6, 27] (fun u i w5 => ∃ k : Nat, i = .int .i64 k ∧ k ≤ m ∧ Ext2 w w5 ∧ OwnR w5 w.heap.size 58 8 u (ls.take k).flatten.length (ntC (ls.take k).flatten)) (fun _ i _ => m - (intOf i).toNat)
      case atStart => exact ⟨0, rfl, by omega, HE4.out, HO.out⟩
      case round =>
        clear HE4 HO
        obtain ⟨k, rfl, hk5, hE, hO⟩ := hrel
        have HE := Lib.hid hE; have HO := Lib.hid hO
        clear hE hO
        by_cases hlt : k < m
        · go_light
          have hkl : k < ls.length := by rw [← HM.out]; exact hlt
          obtain ⟨b, off, hsa, c0⟩ := (HS.out.below HE.out).cell hkl
          have hx := (HS.out.below HE.out).each k hkl
          dsimp only at hsa
          subst hsa
          have hf := flat_snoc hkl
          have hb1 := HFL.out (k + 1); have hb2 := HB.out; have hb3 := HNN.out
          rw [hf, List.length_append, ← hb3] at hb1
          have HF := Lib.hid hf
          obtain ⟨A, hA⟩ : ∃ A, A = (ls.take k).flatten := ⟨_, rfl⟩
          obtain ⟨x, hX⟩ : ∃ x, x = ls.getD k [] := ⟨_, rfl⟩
          obtain ⟨S, hS⟩ : ∃ S, S = hs k := ⟨_, rfl⟩
          rw [← hA, ← hX] at HF
          rw [← hA] at hb1 HO; rw [← hX] at hb1 c0 hx; rw [← hS] at c0 hx
          obtain ⟨L, hL⟩ : ∃ L, L = x.length := ⟨_, rfl⟩
          rw [← hL] at c0
          have HBN : Hid (A.length + x.length ≤ 1000000) := Lib.hid (by omega)
          have HL := Lib.hid hL; have HX := Lib.hid hx
          have h0 : (0 : Int) ≤ (k : Int) := by omega
          have h1 : (k : Int) < (m : Int) := by omega
          have w2' : IntKind.i64.wrap ((k : Int) + 1) = (k : Int) + 1 := IntWalk.i64_in _ (by omega)
          clear hf hA hX hS hb1 hb2 hb3 hkl hL hx
          go_wp2_with (at_builtin; refine app_sl_at elNote (c2 := ntC (A ++ x)) rfl _ _ rfl w.heap.size rfl HO.out S L rfl (by rw [HL.out]; exact HX.out) (ntC_one _) (by have := HBN.out; have := HL.out; omega) HE.out.size (fun i j hi hj => ntC_left hi) (fun i j hi hj => ntC_right) ?_; intro v' w6 hO6 hg6 _; rw [HL.out, ← List.length_append] at hO6; (have HE6 := Lib.hid (ext_grown HE.out hg6 (own_ge HO.out))); (have HO6 := Lib.hid hO6); clear hO6 hg6)
          go_roundw
          case rel => exact ⟨k + 1, by go_num, by omega, HE6.out, by rw [HF.out]; exact HO6.out⟩
          case measure => simp [intOf]; omega
        · obtain rfl : m = k := by omega
          rw [show ls.take m = ls from List.take_of_length_le (by rw [HM.out]; exact Nat.le_refl _)] at HO
          obtain ⟨s', hv, hR⟩ := OwnR.sl HO.out
          rw [← HNN.out] at hv
          subst hv
          have HR := Lib.hid hR
          clear hR HO
          go_wp2_with (fail)
          go_ret
          exact ⟨⟨s', by rw [← HNN.out]; rfl, HR.out⟩, HE.out⟩
theorem note_in' {x : Note} (h : noteE x = 0) : NoteIn x := by
  obtain ⟨-, h1, h2, h3, h4, h5, h6, -, -⟩ := note_ok h
  unfold NoteIn; omega
theorem flat_len {ls : List (List Note)} (h : ∀ l ∈ ls, l.length ≤ 60) : ls.flatten.length ≤ 60 * ls.length := by
  induction ls with
  | nil => simp
  | cons l r ih =>
    have := ih fun x hx => h x (by simp [hx])
    have := h l (by simp)
    rw [List.flatten_cons, List.length_append, List.length_cons]; omega
theorem notes_none (w : World) : NotesS w ⟨none, 0⟩ [] := ⟨Nat.le_refl _, by simp, fun i j hi _ => absurd hi (Nat.not_lt_zero i)⟩
def MrgOut (w : World) (ls : List (List Note)) (e : Ending) (w' : World) : Prop := (∃ s' : Sl, e = .returned (.tuple #[.slice s'.a (mergeV ls).1.length s'.cap, .int .i64 (mergeV ls).2]) ∧ NotesS w' s' (mergeV ls).1) ∧ Below w.heap.size w w'
theorem mrg_none {w W : World} {ls : List (List Note)} {E : Int} (h : mergeV ls = ([], E)) (hW : Below w.heap.size w W) : MrgOut w ls (.returned (.tuple #[.slice none 0 0, .int .i64 E])) W := ⟨⟨⟨none, 0⟩, by rw [h]; rfl, by rw [h]; exact notes_none W⟩, hW⟩
theorem drop_get {α : Type} {l : List α} {k : Nat} {d : α} (hk : k < l.length) : l.drop k = l.getD k d :: l.drop (k + 1) := by
  rw [List.drop_eq_getElem_cons hk, List.getD_eq_getElem?_getD, List.getElem?_eq_getElem hk]; rfl
set_option maxRecDepth 100000 in
set_option maxHeartbeats 8000000 in
theorem merge_any {ls : List (List Note)} {s : Sl} {hs : Nat → Sl} {w : World} (h : NListsS w s hs ls) (hmx : MaxAt w) : Calls Tryz.prog 11 #[.slice s.a ls.length s.cap] w (MrgOut w ls) := by
  have HS := Lib.hid h; have HMX := Lib.hid hmx
  have hle := h.row.le; have hcm := h.row.max
  obtain ⟨sa, sc⟩ := s
  dsimp only at hle hcm
  clear h hmx
  obtain ⟨m, hm⟩ : ∃ m, m = ls.length := ⟨_, rfl⟩
  rw [← hm] at hle ⊢
  have HM := Lib.hid hm
  have hE0 := Below.refl w.heap.size w
  have HE0 := Lib.hid hE0
  by_cases h8 : 8 < m
  · have hv : mergeV ls = ([], 3) := by unfold mergeV; rw [if_pos (by rw [← hm]; exact h8)]
    have HV := Lib.hid hv
    have h8' : (8 : Int) < (m : Int) := by omega
    clear hv h8 hm hE0
    go_enter Tryz.func11, Tryz.ntmps11
    go_wp2_with (fail)
    go_ret2
    exact mrg_none HV.out HE0.out
  have hv : mergeV ls = if listsE ls ≠ 0 then ([], listsE ls) else if 60 < (standV ls.flatten).length then ([], 3) else (standV ls.flatten, 0) := by unfold mergeV; rw [if_neg (by rw [← hm]; exact h8)]
  have HV := Lib.hid hv
  have h8' : ¬ (8 : Int) < (m : Int) := by omega
  clear hv hm hE0
  go_enter Tryz.func11, Tryz.ntmps11
  go_wp2_with (fail)
  go_loopw [15] (fun i wr => ∃ k : Nat, i = .int .i64 k ∧ k ≤ m ∧ Ext2 w wr ∧ listsE ls = listsE (ls.drop k)) (fun i _ => m - (intOf i).toNat)
  case atStart => exact ⟨0, rfl, by omega, HE0.out, rfl⟩
  case round =>
    clear HE0
    obtain ⟨k, rfl, hk, hE, hD⟩ := hrel
    have HE := Lib.hid hE
    clear hE
    by_cases hlt : k < m
    · go_light
      have hkl : k < ls.length := by rw [← HM.out]; exact hlt
      obtain ⟨b, off, hsa, c0⟩ := (HS.out.below HE.out).cell hkl
      have hx := HS.out.each k hkl
      have hsz := HS.out.sizes (ls.getD k []) (by rw [List.getD_eq_getElem?_getD, List.getElem?_eq_getElem hkl]; exact List.getElem_mem hkl)
      dsimp only at hsa
      subst hsa
      rw [drop_get (d := []) hkl, listsE] at hD
      obtain ⟨x, hX⟩ : ∃ x, x = ls.getD k [] := ⟨_, rfl⟩
      obtain ⟨S, hS⟩ : ∃ S, S = hs k := ⟨_, rfl⟩
      rw [← hX] at c0 hx hsz hD; rw [← hS] at c0 hx
      have hc2 := hx.le; have hc3 := hx.max
      obtain ⟨n, hn⟩ : ∃ n, n = x.length := ⟨_, rfl⟩
      rw [← hn] at c0 hD hc2
      obtain ⟨Sa, Sc⟩ := S
      dsimp only at c0 hc2 hc3
      have HN := Lib.hid hn; have HX := Lib.hid hx; have HSZ := Lib.hid hsz; have HD := Lib.hid hD
      have h0 : (0 : Int) ≤ (k : Int) := by omega
      have h1 : (k : Int) < (m : Int) := by omega
      have w2' : IntKind.i64.wrap ((k : Int) + 1) = (k : Int) + 1 := IntWalk.i64_in _ (by omega)
      clear hX hS hn hx hsz hD hkl
      by_cases h60 : 60 < n
      · have h60' : (60 : Int) < (n : Int) := by omega
        have hF : mergeV ls = ([], 3) := by rw [HV.out, HD.out, if_pos h60]; rfl
        have HF := Lib.hid hF
        clear hF h60
        go_wp2_with (fail)
        go_ret2
        exact mrg_none HF.out HE.out
      have h60' : ¬ (60 : Int) < (n : Int) := by omega
      have HD2 := Lib.hid HD.out
      rw [if_neg h60] at HD2
      clear HD
      go_wp2_with (fail)
      clear c0
      go_loopw [24] (fun i wq => ∃ j : Nat, i = .int .i64 j ∧ j ≤ n ∧ Ext2 w wq ∧ listE x = listE (x.drop j)) (fun i _ => n - (intOf i).toNat)
      case atStart => exact ⟨0, rfl, by omega, HE.out, rfl⟩
      case round =>
        clear HE
        obtain ⟨j, rfl, hj, hE, hJ⟩ := hrel
        have HE := Lib.hid hE
        clear hE
        by_cases hlt2 : j < n
        · go_light
          have hjl : j < x.length := by rw [← HN.out]; exact hlt2
          obtain ⟨b2, off2, hsa2, c0, c1, c2, c3, c4, c5, c6, c7⟩ := nt_cells (HX.out.below HE.out) (i := j) hjl
          dsimp only at hsa2
          subst hsa2
          have hsz := HSZ.out _ (nt_in hjl)
          rw [drop_get (d := default) hjl, listE] at hJ
          obtain ⟨y, hy⟩ : ∃ y, y = ntD x j := ⟨_, rfl⟩
          rw [show x.getD j default = y from hy.symm] at hJ
          rw [← hy] at c0 c1 c2 c3 c4 c5 c6 c7 hsz
          obtain ⟨E, hEx⟩ : ∃ E, E = noteE y := ⟨_, rfl⟩
          rw [← hEx] at hJ
          have HST : Hid (∀ W, Ext2 w W → Calls Tryz.prog 33 #[.agg #[.string y.by_, .int .i64 y.number, .int .i64 y.rev, .int .i64 y.kind, .int .i64 y.from_, .int .i64 y.until_, .int .i64 y.mlo, .int .i64 y.mhi]] W fun e w' => e = .returned (.int .i64 E) ∧ Below W.heap.size W w') := Lib.hid fun W hW => by rw [hEx]; exact strange_any hsz (HMX.out.below hW)
          have HJ := Lib.hid hJ
          have h0 : (0 : Int) ≤ (j : Int) := by omega
          have h1 : (j : Int) < (n : Int) := by omega
          have w3' : IntKind.i64.wrap ((j : Int) + 1) = (j : Int) + 1 := IntWalk.i64_in _ (by omega)
          clear hJ hy hEx hsz hjl
          go_upto_region 11 with (fail)
          clear c0 c1 c2 c3 c4 c5 c6 c7
          refine wp_name ?_
          intro w5 hw5
          obtain ⟨n5, hn5⟩ : ∃ n, n = wr.heap.size := ⟨_, rfl⟩
          have x5 : w5.heap[n5]? = some (Obj.cells #[.string y.by_, .int .i64 y.number, .int .i64 y.rev, .int .i64 y.kind, .int .i64 y.from_, .int .i64 y.until_, .int .i64 y.mlo, .int .i64 y.mhi] 58) := by rw [hw5, hn5]; exact blk_new _ _
          have hE5 : Ext2 wr w5 := by rw [hw5]; exact below_alloc' _ _
          have HE5 := Lib.hid (ext_trans HE.out hE5)
          rw [← hn5]
          clear hw5 hn5 hE5
          have q5c := cell_blk x5
          have q5f := frz_blk x5
          go_wp2_with (fail)
          (with_reducible refine (HST.out _ HE5.out).mono ?_)
          rintro e w6 ⟨rfl, hE6⟩
          have HE6 := Lib.hid (ext_trans HE5.out hE6)
          clear q5c q5f hE6 x5
          by_cases hE0 : E = 0
          · subst hE0
            have HF : Hid (listE x = listE (x.drop (j + 1))) := Lib.hid (by rw [HJ.out, if_neg (by simp)])
            go_wp2_with (fail)
            go_roundw
            case rel => exact ⟨j + 1, by go_num, by omega, HE6.out, HF.out⟩
            case measure => simp [intOf]; omega
          · have hb : (E != 0) = true := by simpa using hE0
            have hle : listE x = E := by rw [HJ.out, if_pos hE0]
            have he : listsE ls = E := by rw [HD2.out, hle, if_pos hE0]
            have HF : Hid (mergeV ls = ([], E)) := Lib.hid (by rw [HV.out, he, if_pos hE0])
            clear hE0 hle he
            go_wp2_with (fail)
            go_ret2
            exact mrg_none HF.out HE6.out
        · obtain rfl : n = j := by omega
          have hJ0 : listE x = 0 := by rw [hJ, List.drop_of_length_le (by rw [HN.out]; exact Nat.le_refl _)]; rfl
          have hF : listsE ls = listsE (ls.drop (k + 1)) := by rw [HD2.out, if_neg (by rw [hJ0]; simp)]
          have HF := Lib.hid hF
          clear hJ0 hF hJ
          go_wp2_with (fail)
          go_roundw
          case rel => exact ⟨k + 1, by go_num, by omega, HE.out, HF.out⟩
          case measure => simp [intOf]; omega
    · obtain rfl : m = k := by omega
      have hD0 : listsE ls = 0 := by rw [hD, List.drop_of_length_le (by rw [HM.out]; exact Nat.le_refl _)]; rfl
      have hok := listsE_ok.1 hD0
      have hfl := flat_len fun l hl => (hok l hl).1
      rw [← HM.out] at hfl
      have hfl : ls.flatten.length ≤ 1000000 := by omega
      have hin : ∀ x ∈ ls.flatten, NoteIn x := fun x hx => by
        obtain ⟨l, hl, hx⟩ := List.mem_flatten.1 hx
        exact note_in' ((hok l hl).2 x hx)
      have hv2 := HV.out
      rw [if_neg (by rw [hD0]; simp)] at hv2
      have HV2 := Lib.hid hv2
      have HC := Lib.hid fun (W : World) (hW : Ext2 w W) => concat_any (HS.out.below hW) hfl (by rw [← HM.out]; omega)
      have HST := Lib.hid fun (s' : Sl) (W : World) (hW : NotesS W s' ls.flatten) => standing_any hW hfl hin
      rw [← HM.out] at HC
      dsimp only at HC
      obtain ⟨FL, hFL⟩ : ∃ X, X = ls.flatten := ⟨_, rfl⟩
      rw [← hFL] at HC HST HV2
      clear hD0 hok hfl hin hv2 hD hFL
      go_wp2_with (fail)
      refine (HC.out _ HE.out).mono ?_
      rintro e w4 ⟨⟨s1, rfl, hN1⟩, hE4⟩
      have HN1 := Lib.hid hN1; have HE4 := Lib.hid (ext_trans HE.out hE4)
      clear hN1 hE4 HC
      go_wp2_with (fail)
      refine (HST.out s1 _ HN1.out).mono ?_
      rintro e w5 ⟨⟨s2, rfl, hN2⟩, hE5⟩
      have HN2 := Lib.hid hN2; have HE5 := Lib.hid (ext_trans HE4.out hE5)
      clear hN2 hE5 HST
      obtain ⟨V, hVV⟩ : ∃ V, V = standV FL := ⟨_, rfl⟩
      rw [← hVV] at HN2 HV2 ⊢
      have hl2 := HN2.out.le; have hl3 := HN2.out.max
      obtain ⟨N, hN⟩ : ∃ N, N = V.length := ⟨_, rfl⟩
      rw [← hN] at hl2 HV2 ⊢
      have HNN := Lib.hid hN
      clear hVV hN
      by_cases h60 : 60 < N
      · have h60' : (60 : Int) < (N : Int) := by omega
        have HF : Hid (mergeV ls = ([], 3)) := Lib.hid (by rw [HV2.out, if_pos h60])
        clear h60
        go_wp2_with (fail)
        go_ret2
        exact mrg_none HF.out HE5.out
      · have h60' : ¬ (60 : Int) < (N : Int) := by omega
        have HF : Hid (mergeV ls = (V, 0)) := Lib.hid (by rw [HV2.out, if_neg h60])
        go_wp2_with (fail)
        go_ret2
        exact ⟨⟨s2, by rw [HF.out]; simp only [← HNN.out]; rfl, by rw [HF.out]; exact HN2.out⟩, HE5.out⟩
end YtapeakbngligaaaGreatDoor
end Go.Proofs
