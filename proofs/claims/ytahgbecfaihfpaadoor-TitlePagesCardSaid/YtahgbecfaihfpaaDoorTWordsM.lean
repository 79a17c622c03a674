/-
  strings.Split at a space.
  The words of a text: plain, and in memory.
  title.words.
-/
import Derived.Test.YtahgbecfaihfpaaDoorTSetM
import Derived.Ground.NamesProg
import Derived.Shelf.Lay
import Derived.Shelf.Strings.Split
namespace Go.Proofs
open Go.RowKit Go.Shelf
shelf_lay Lays.n146 Nm 146 at Tryd as Tryd.laysSplit
namespace YtahgbecfaihfpaaDoor
namespace D
/-- The parts between spaces. -/
def cutW : List UInt8 → List (List UInt8)
  | [] => [[]]
  | c :: l => if c = 32 then [] :: cutW l else match cutW l with
    | [] => [[c]]
    | p :: ps => (c :: p) :: ps
def partsS (t : ByteArray) : List ByteArray := (cutW t.data.toList).map baL
theorem cutW_ne (l : List UInt8) : cutW l ≠ [] := by
  cases l with
  | nil => simp [cutW]
  | cons c l =>
    unfold cutW
    split
    · simp
    · split <;> simp
theorem cutW_len : ∀ l, (cutW l).length = l.count 32 + 1
  | [] => rfl
  | c :: l => by
    have ih := cutW_len l
    unfold cutW
    by_cases h : c = 32
    · rw [if_pos h, h]; simp [ih]
    · rw [if_neg h, List.count_cons, if_neg (by simpa using h)]
      cases hc : cutW l with
      | nil => exact absurd hc (cutW_ne l)
      | cons p ps => rw [hc] at ih; simpa using ih
theorem index32 (c : UInt8) (l : List UInt8) : Lib.index (c :: l) [32] = if c = 32 then 0 else if Lib.index l [32] = -1 then -1 else Lib.index l [32] + 1 := by
  rw [Lib.index]
  by_cases h : c = 32
  · subst h; simp [List.isPrefixOf]
  · rw [if_neg h]
    have : ([32] : List UInt8).isPrefixOf (c :: l) = false := by simp [List.isPrefixOf]; exact fun e => h e.symm
    rw [this]; simp
theorem splitK_cons {c : UInt8} (hc : c ≠ 32) (l : List UInt8) : ∀ k, Lib.splitK [32] 0 k (c :: l) = match Lib.splitK [32] 0 k l with
    | [] => [[c]]
    | p :: ps => (c :: p) :: ps
  | 0 => rfl
  | k + 1 => by
    unfold Lib.splitK
    rw [index32, if_neg hc]
    by_cases h : Lib.index l [32] = -1
    · rw [if_pos h, h]; rfl
    · have hge := Lib.index_ge l [32]
      rw [if_neg h]
      obtain ⟨i, hi⟩ : ∃ i : Nat, Lib.index l [32] = (i : Int) := ⟨(Lib.index l [32]).toNat, by omega⟩
      rw [hi]
      have e1 : ¬ ((i : Int) + 1 == -1) = true := by rw [beq_iff_eq]; omega
      have e2 : ¬ ((i : Int) == -1) = true := by rw [beq_iff_eq]; omega
      rw [if_neg e1, if_neg e2]
      have e3 : ((i : Int) + 1).toNat = i + 1 := by omega
      rw [e3]
      simp
theorem splitK_cut : ∀ (l : List UInt8) (k : Nat), l.count 32 ≤ k → Lib.splitK [32] 0 k l = cutW l
  | [], k, _ => by cases k <;> rfl
  | c :: l, k, h => by
    by_cases hc : c = 32
    · subst hc
      rw [List.count_cons_self] at h
      obtain ⟨k, rfl⟩ : ∃ j, k = j + 1 := ⟨k - 1, by omega⟩
      have ih := splitK_cut l k (by omega)
      unfold Lib.splitK cutW
      rw [index32]
      simp [ih]
    · have ih := splitK_cut l k (by rw [List.count_cons, if_neg (by simpa using hc)] at h; exact h)
      rw [splitK_cons hc, ih]
      conv => rhs; unfold cutW
      rw [if_neg hc]
theorem countFrom32 : ∀ (l : List UInt8) (f : Nat), l.length < f → Lib.countFrom [32] f l = l.count 32
  | [], f, h => by
    obtain ⟨f, rfl⟩ : ∃ j, f = j + 1 := ⟨f - 1, by omega⟩
    rfl
  | c :: l, f, h => by
    obtain ⟨f, rfl⟩ : ∃ j, f = j + 1 := ⟨f - 1, by omega⟩
    simp at h
    by_cases hc : c = 32
    · subst hc
      have ih := countFrom32 l f (by omega)
      unfold Lib.countFrom
      rw [index32]
      simp [ih]; omega
    · have ih := countFrom32 l (f + 1) (by omega)
      rw [List.count_cons, if_neg (by simpa using hc), Nat.add_zero, ← ih]
      unfold Lib.countFrom
      rw [index32, if_neg hc]
      by_cases h : Lib.index l [32] = -1
      · rw [if_pos h, h]; rfl
      · have hge := Lib.index_ge l [32]
        rw [if_neg h]
        obtain ⟨i, hi⟩ : ∃ i : Nat, Lib.index l [32] = (i : Int) := ⟨(Lib.index l [32]).toNat, by omega⟩
        rw [hi]
        have e1 : ¬ ((i : Int) + 1 == -1) = true := by rw [beq_iff_eq]; omega
        have e2 : ¬ ((i : Int) == -1) = true := by rw [beq_iff_eq]; omega
        rw [if_neg e1, if_neg e2]
        have e3 : ((i : Int) + 1).toNat = i + 1 := by omega
        rw [e3]
        simp
theorem baL_data (t : ByteArray) : baL t.data.toList = t := by
  unfold baL; simp
theorem data_baL (l : List UInt8) : (baL l).data.toList = l := by simp [baL]
theorem splitB_parts (t : ByteArray) (k : Nat) (h : t.data.toList.count 32 ≤ k) : Lib.splitB ⟨#[32]⟩ 0 k t = partsS t := by
  have h1 := Lib.splitB_data ⟨#[32]⟩ 0 k t
  rw [splitK_cut _ _ h] at h1
  unfold partsS
  rw [← h1, List.map_map]
  conv => lhs; rw [← List.map_id (Lib.splitB ⟨#[32]⟩ 0 k t)]
  exact List.map_congr_left fun x _ => (baL_data x).symm
theorem countB_parts (t : ByteArray) : Lib.countB t ⟨#[32]⟩ = t.data.toList.count 32 := countFrom32 _ _ (Nat.lt_succ_self _)
theorem parts_len (t : ByteArray) : (partsS t).length = t.data.toList.count 32 + 1 := by unfold partsS; rw [List.length_map, cutW_len]
end D
open D
theorem hiSplit : (Tryd.prog.info? (Tryd.laysSplit_ren.t 9)).map (fun i => (i.zero, i.size, i.bytes)) = some (some (.string ByteArray.empty), 1, 16) := by kernel_rfl
/-- The cell of the longest length of bytealg. -/
def MaxAt (w : World) : Prop := ∃ m, w.cell? ⟨(Tryd.laysSplit_ren.g 1), 0, none⟩ = some (.int .i64 m)
theorem MaxAt.below {w w' : World} (h : MaxAt w) (hb : Below w.heap.size w w') : MaxAt w' := by
  obtain ⟨m, hm⟩ := h
  exact ⟨m, by rw [(bcell (w := w) (W := w) hb).1 _ _ (cell_lt hm)]; exact hm⟩
theorem split_any (s : ByteArray) {w : World} (hs : s.size < 4294967281) (hm : MaxAt w) :
    Calls Tryd.prog 84 #[.string s, .string ⟨#[32]⟩] w fun e w' => e = .returned (.slice (some ⟨w.heap.size, 0, none⟩) (partsS s).length (partsS s).length) ∧ w' = w.alloc (.cells ((partsS s).map Value.string).toArray 9) := by
  obtain ⟨m, hm⟩ := hm
  have h := Any.strings_Split Tryd.laysSplit hiSplit s ⟨#[32]⟩ m w hs hm (by decide)
  rw [countB_parts, splitB_parts _ _ (Nat.le_refl _), ← parts_len] at h
  exact h
end YtahgbecfaihfpaaDoor
end Go.Proofs
namespace Go.Proofs.YtahgbecfaihfpaaDoor.D
def gL (F : Font) (p : ByteArray) : List Nat := (setS F p.data.toList).getD []
def wW (F : Font) (p : ByteArray) : Int := widS F (gL F p) (gL F p).length
/-- The error of a word of a text. -/
def wordErr (F : Font) (R : Rul) (p : ByteArray) : Int := if (setS F p.data.toList).isNone then 200 else if R.measure < wW F p then 201 else 0
def badW (F : Font) (R : Rul) (P : List ByteArray) (i : Nat) : Bool := decide (wordErr F R (strD P i) ≠ 0)
/-- The error of a text. -/
def wordsE (F : Font) (R : Rul) (t : ByteArray) : Int :=
  if 1000 < t.size then 3
  else if anyF (fun i => oddS (strD (partsS t) i)) (partsS t).length then 6
  else if 40 < (partsS t).length then 3
  else if anyF (fun i => decide (24 < (strD (partsS t) i).size)) (partsS t).length then 3
  else if firstN (badW F R (partsS t)) (partsS t).length < (partsS t).length then wordErr F R (strD (partsS t) (firstN (badW F R (partsS t)) (partsS t).length))
  else 0
end Go.Proofs.YtahgbecfaihfpaaDoor.D
namespace Go.Proofs.YtahgbecfaihfpaaDoor
open Go.RowKit D
def wordC (F : Font) (P : List ByteArray) (gs ps : Nat → Sl) (i j : Nat) : Value :=
  match j with
  | 0 => .string (strD P i)
  | 1 => .slice (gs i).a (gL F (strD P i)).length (gs i).cap
  | 2 => .slice (ps i).a (gL F (strD P i)).length (ps i).cap
  | _ => .int .i64 (wW F (strD P i))
/-- The glyphs and places of the first n words. -/
def GlyAt (w : World) (F : Font) (P : List ByteArray) (gs ps : Nat → Sl) (n : Nat) : Prop := ∀ i, i < n → IntsT w (gs i) ((gL F (strD P i)).map Int.ofNat) ∧ IntsT w (ps i) (placesS F (gL F (strD P i)))
theorem GlyAt.below {w w' : World} {F : Font} {P : List ByteArray} {gs ps : Nat → Sl} {n : Nat} (h : GlyAt w F P gs ps n) (hb : Below w.heap.size w w') : GlyAt w' F P gs ps n := fun i hi => ⟨(h i hi).1.below hb, (h i hi).2.below hb⟩
theorem IntsT.app {w w' : World} {s : Sl} {l : List Int} {base : Nat} {e : TypeId} {sz n : Nat} {v : Value} {c : Nat → Nat → Value} (h : IntsT w s l) (hO : OwnR w base e sz v n c) (he : 3 ≠ e) (hg : w.grownBy w' v.ownBlock) : IntsT w' s l := by
  have hk : ∀ b off, s.a = some ⟨b, off, none⟩ → w'.heap[b]? = w.heap[b]? := fun b off ha => by
    obtain ⟨c', f, hc⟩ := h.2 b off ha
    refine hg.block b (blk_lt hc) fun hb => ?_
    rcases hO.forms with ⟨rfl, _⟩ | ⟨g, cap, rfl, _, _, _, _, _, cur, hcur⟩
    · cases hb
    · obtain rfl : g = b := by simpa [Value.ownBlock] using hb.symm
      rw [hc] at hcur
      exact he (by simpa using (Obj.cells.inj (Option.some.inj hcur)).2.1)
  refine ⟨⟨h.1.le, h.1.max, fun i j hi hj => ?_⟩, fun b off ha => ?_⟩
  · obtain ⟨b, off, ha, hc⟩ := h.1.cell i j hi hj
    refine ⟨b, off, ha, ?_⟩
    rw [← hc]
    simp only [World.cell?]
    rw [hk b off ha]
  · obtain ⟨c', f, hc⟩ := h.2 b off ha
    exact ⟨c', f, by rw [hk b off ha]; exact hc⟩
theorem GlyAt.app {w w' : World} {F : Font} {P : List ByteArray} {gs ps : Nat → Sl} {k base : Nat} {e : TypeId} {sz n : Nat} {v : Value} {c : Nat → Nat → Value} (h : GlyAt w F P gs ps k) (hO : OwnR w base e sz v n c) (he : 3 ≠ e) (hg : w.grownBy w' v.ownBlock) : GlyAt w' F P gs ps k :=
  fun i hi => ⟨(h i hi).1.app hO he hg, (h i hi).2.app hO he hg⟩
def putS (f : Nat → Sl) (k : Nat) (s : Sl) : Nat → Sl := fun i => if i = k then s else f i
theorem GlyAt.put {w : World} {F : Font} {P : List ByteArray} {gs ps : Nat → Sl} {k : Nat} {g p : Sl} (h : GlyAt w F P gs ps k) (hg : IntsT w g ((gL F (strD P k)).map Int.ofNat)) (hp : IntsT w p (placesS F (gL F (strD P k)))) : GlyAt w F P (putS gs k g) (putS ps k p) (k + 1) := fun i hi => by
  unfold putS
  by_cases hik : i = k
  · subst hik; rw [if_pos rfl, if_pos rfl]; exact ⟨hg, hp⟩
  · rw [if_neg hik, if_neg hik]; exact h i (by omega)
theorem wordC_put {F : Font} {P : List ByteArray} {gs ps : Nat → Sl} {k i j : Nat} {g p : Sl} (h : i < k) : wordC F P (putS gs k g) (putS ps k p) i j = wordC F P gs ps i j := by
  unfold wordC putS
  rw [if_neg (by omega), if_neg (by omega)]
theorem elWord : Elem Tryd.prog 99 90 (.agg #[.string ByteArray.empty, .slice none 0 0, .slice none 0 0, .int .i64 0]) 4 72 := ⟨by kernel_rfl, by kernel_rfl, rfl, by omega, by omega⟩
/-- The words of a text, in memory. -/
structure WordsAt (w : World) (F : Font) (P : List ByteArray) (gs ps : Nat → Sl) (s : Sl) : Prop where
  row : RowS w s 4 P.length (wordC F P gs ps)
  gly : GlyAt w F P gs ps P.length
  ty : TyS w s 90
def WordsOut (w : World) (F : Font) (R : Rul) (t : ByteArray) (e : Ending) (w' : World) : Prop :=
  (if wordsE F R t = 0 then ∃ s gs ps, e = .returned (.slice s.a (partsS t).length s.cap) ∧ WordsAt w' F (partsS t) gs ps s else e = .panicked [{ v := .iface 27 (.int .i64 (wordsE F R t)), recovered := false }]) ∧ Below w.heap.size w w'
theorem wordsOut_no {w w' : World} {F : Font} {R : Rul} {t : ByteArray} {x : Int} (h : wordsE F R t = x) (h0 : x ≠ 0) (hb : Below w.heap.size w w') : WordsOut w F R t (.panicked [{ v := .iface 27 (.int .i64 (x)), recovered := false }]) w' := by
  refine ⟨?_, hb⟩
  rw [if_neg (by rw [h]; exact h0), h]
end Go.Proofs.YtahgbecfaihfpaaDoor
namespace Go.Proofs.YtahgbecfaihfpaaDoor
open Go.RowKit D
set_option linter.unusedVariables false
set_option linter.unusedSimpArgs false
attribute [local go_sem high] run_minI run_maxI
attribute [local go_sem] upon2 cls_cell cls_frozen forall_const exists_eq_left'
attribute [local go_sem] FirstUpon
theorem long_any (p : ByteArray) (w : World) : Calls Tryd.prog 86 #[.string p] w fun e w' => e = .returned (.bool (decide (24 < p.size))) ∧ w = w' := by
  have hd : decide ((24 : Int) < (p.size : Int)) = decide (24 < p.size) := by
    by_cases h : 24 < p.size
    · rw [decide_eq_true h, decide_eq_true (by omega)]
    · rw [decide_eq_false h, decide_eq_false (by omega)]
  obtain ⟨v, hv⟩ : ∃ v, v = decide (24 < p.size) := ⟨_, rfl⟩
  rw [← hv] at hd ⊢
  clear hv
  go_enter Tryd.func86, Tryd.ntmps86
  go_wp2_with (fail)
  go_ret
  exact ⟨rfl, rfl⟩
theorem parts_strs {w : World} {b : Nat} {l : List ByteArray} {t : TypeId} (h : w.heap[b]? = some (.cells (l.map Value.string).toArray t (0, 0))) (hl : l.length ≤ 1001) : StrsS w ⟨some ⟨b, 0, none⟩, l.length⟩ l :=
  ⟨Nat.le_refl _, by show l.length ≤ _; omega, fun i j hi hj => ⟨b, 0, rfl, by
    rw [Nat.zero_add, Nat.mul_one, show j = 0 from by omega, Nat.add_zero, cell_blk h]
    simp [strC, strD, List.getD_eq_getElem?_getD, hi]⟩⟩
theorem anyF_false {p : Nat → Bool} {n : Nat} (h : false = anyF p n) (i : Nat) (hi : i < n) : p i = false := by
  have h1 := of_decide_eq_false h.symm
  have h2 := firstN_le p n
  exact (firstN_spec (p := p) (n := n)).1 i (by omega)
set_option maxRecDepth 100000 in
set_option maxHeartbeats 2000000 in
theorem words_any {F : Font} {s : FSl} {R : Rul} {b gm km : Nat} {t : ByteArray} {w : World} (hS : SetAt w F s R b gm km) (hk : FontOk F) (hr : RulOk F R) (hm : MaxAt w) :
    Calls Tryd.prog 76 #[.pointer (some ⟨b, 0, none⟩), .string t] w (WordsOut w F R t) := by
  have HS := Lib.hid hS; have HK := Lib.hid hk
  have hmr := hr.measure
  obtain ⟨E, hE⟩ : ∃ E, E = wordsE F R t := ⟨_, rfl⟩
  have hE' := hE
  unfold wordsE at hE'
  have HE := Lib.hid hE
  by_cases h1 : 1000 < t.size
  · rw [if_pos h1] at hE'
    have hx : wordsE F R t = 3 := by rw [← hE, hE']
    have HX := Lib.hid hx
    have hd : decide ((t.size : Int) ≤ 1000) = false := decide_eq_false (by omega)
    have hn : ¬ (t.size : Int) ≤ 1000 := by omega
    clear hS hk hr hm hE hE' hx
    go_enter Tryd.func76, Tryd.ntmps76
    go_wp2_with (fail)
    (with_reducible refine (must_no _ _).mono ?_)
    rintro e w1 ⟨rfl, rfl⟩
    go_wp2_with (fail)
    exact ⟨rfl, wordsOut_no HX.out (by decide) (Below.refl _ _)⟩
  · rw [if_neg h1] at hE'
    have hd : decide ((t.size : Int) ≤ 1000) = true := decide_eq_true (by omega)
    have hn : (t.size : Int) ≤ 1000 := by omega
    have HSP := Lib.hid (split_any t (w := w) (by omega) hm)
    obtain ⟨P, hP⟩ : ∃ P, P = partsS t := ⟨_, rfl⟩
    have hPl : P.length ≤ 1001 := by
      rw [hP, parts_len]
      have h2 := List.count_le_length (a := (32 : UInt8)) (l := t.data.toList)
      have h3 : t.data.toList.length = t.size := by simp
      omega
    rw [← hP] at hE' HSP
    have HE' := Lib.hid hE'; have HP := Lib.hid hP
    clear hS hk hr hm hE hE' h1 hP
    go_enter Tryd.func76, Tryd.ntmps76
    go_wp2_with (fail)
    (with_reducible refine (must_ok _ _).mono ?_)
    rintro e w1 ⟨rfl, rfl⟩
    go_wp2_with (fail)
    (with_reducible refine HSP.out.mono ?_)
    rintro e w1 ⟨rfl, h1⟩
    obtain ⟨pb, hpb⟩ : ∃ n, n = w.heap.size := ⟨_, rfl⟩
    have xp : w1.heap[pb]? = some (.cells (P.map Value.string).toArray 9 (0, 0)) := by rw [h1, hpb]; exact blk_new _ _
    have hB1 : Below w.heap.size w w1 := by rw [h1]; exact below_alloc' _ _
    rw [← hpb]
    have HPB := Lib.hid hpb
    have hps : StrsS w1 ⟨some ⟨pb, 0, none⟩, P.length⟩ P := parts_strs xp hPl
    have hpl := blk_lt xp
    have HPS := Lib.hid hps
    obtain ⟨v1, hv1⟩ : ∃ v, v = anyF (fun i => oddS (strD P i)) P.length := ⟨_, rfl⟩
    obtain ⟨v2, hv2⟩ : ∃ v, v = anyF (fun i => decide (24 < (strD P i).size)) P.length := ⟨_, rfl⟩
    have HV1 := Lib.hid hv1; have HV2 := Lib.hid hv2
    have HC1 : Hid (∀ W, Ext2 w1 W → Calls Tryd.prog 85 #[.slice (some ⟨pb, 0, none⟩) P.length P.length, .func (.func 48) #[] #[]] W fun e w' => e = .returned (.bool v1) ∧ Below W.heap.size W w') := Lib.hid fun W hW => by
      rw [hv1]
      exact contS_any (s := ⟨some ⟨pb, 0, none⟩, P.length⟩) (RowS.below hps hW) (fun args w => by kernel_rfl) fun i W hi _ => odd_any _ _
    have HC2 : Hid (∀ W, Ext2 w1 W → Calls Tryd.prog 85 #[.slice (some ⟨pb, 0, none⟩) P.length P.length, .func (.func 86) #[] #[]] W fun e w' => e = .returned (.bool v2) ∧ Below W.heap.size W w') := Lib.hid fun W hW => by
      rw [hv2]
      exact contS_any (s := ⟨some ⟨pb, 0, none⟩, P.length⟩) (RowS.below hps hW) (fun args w => by kernel_rfl) fun i W hi _ => (long_any _ _).mono (by rintro e w' ⟨h1, rfl⟩; exact ⟨h1, Below.refl _ _⟩)
    clear h1 hpb hps hv1 hv2 HSP
    go_wp2_with (fail)
    (with_reducible refine (HC1.out w1 (Ext2.refl w1)).mono ?_)
    rintro e w2 ⟨rfl, hb2⟩
    have hE2 : Ext2 w1 w2 := hb2
    have hB2 := below_ext hB1 hE2
    clear hb2
    cases v1 with
    | true =>
      have hx : wordsE F R t = 6 := by rw [← HE.out, HE'.out, ← HV1.out]; rfl
      have HX := Lib.hid hx
      clear hx
      go_wp2_with (fail)
      (with_reducible refine (must_no _ _).mono ?_)
      rintro e w3 ⟨rfl, rfl⟩
      go_wp2_with (fail)
      exact ⟨rfl, wordsOut_no HX.out (by decide) hB2⟩
    | false =>
      have hE3 := HE'.out
      rw [← HV1.out, if_neg Bool.false_ne_true] at hE3
      have HE3 := Lib.hid hE3
      clear hE3 HE'
      go_wp2_with (fail)
      (with_reducible refine (must_ok _ _).mono ?_)
      rintro e w3 ⟨rfl, rfl⟩
      by_cases h40 : 40 < P.length
      · have hx : wordsE F R t = 3 := by rw [← HE.out, HE3.out, if_pos h40]
        have HX := Lib.hid hx
        have hd4 : decide ((P.length : Int) ≤ 40) = false := decide_eq_false (by omega)
        have hn4 : ¬ (P.length : Int) ≤ 40 := by omega
        clear hx h40
        go_wp2_with (fail)
        (with_reducible refine (must_no _ _).mono ?_)
        rintro e w3 ⟨rfl, rfl⟩
        go_wp2_with (fail)
        exact ⟨rfl, wordsOut_no HX.out (by decide) hB2⟩
      · have hE4 := HE3.out
        rw [if_neg h40, ← HV2.out] at hE4
        have HE4 := Lib.hid hE4
        have hd4 : decide ((P.length : Int) ≤ 40) = true := decide_eq_true (by omega)
        have hn4 : (P.length : Int) ≤ 40 := by omega
        clear hE4 HE3
        go_wp2_with (fail)
        (with_reducible refine (HC2.out _ hE2).mono ?_)
        rintro e w3 ⟨rfl, hb3⟩
        have hE3 : Ext2 w1 w3 := below_ext hE2 hb3
        have hB3 := below_ext hB1 hE3
        clear hb3 hE2 hB2
        cases v2 with
        | true =>
          have hx : wordsE F R t = 3 := by rw [← HE.out, HE4.out]; rfl
          have HX := Lib.hid hx
          clear hx
          go_wp2_with (fail)
          (with_reducible refine (must_no _ _).mono ?_)
          rintro e w4 ⟨rfl, rfl⟩
          go_wp2_with (fail)
          exact ⟨rfl, wordsOut_no HX.out (by decide) hB3⟩
        | false =>
          have hE5 := HE4.out
          rw [if_neg Bool.false_ne_true] at hE5
          have HE5 := Lib.hid hE5
          clear hE5 HE4
          go_wp2_with (fail)
          (with_reducible refine (must_ok _ _).mono ?_)
          rintro e w4 ⟨rfl, rfl⟩
          go_wp2_with (fail)
          have hall : ∀ i, i < P.length → (strD P i).size ≤ 24 := fun i hi => by
            have := anyF_false HV2.out i hi
            simpa using this
          have HALL := Lib.hid hall
          have xp3 := Ext2.blk hE3 xp
          have HXP3 := Lib.hid xp3
          have hpw : pb = w.heap.size := HPB.out
          have HB3 := Lib.hid hB3
          clear hall xp3 xp hE3 hB3 hpw
          go_loopw [30, 4] (fun p v wr => ∃ (k : Nat) (gs ps : Nat → Sl), p = .int .i64 (k : Int) ∧ k ≤ P.length ∧ Below w.heap.size w wr ∧ wr.heap[pb]? = some (.cells (P.map Value.string).toArray 9 (0, 0)) ∧ OwnR wr (pb + 1) 90 4 v k (wordC F P gs ps) ∧ GlyAt wr F P gs ps k ∧ ∀ i, i < k → badW F R P i = false) (fun p _ _ => P.length - (intOf p).toNat)
          case atStart => exact ⟨0, fun _ => ⟨none, 0⟩, fun _ => ⟨none, 0⟩, rfl, by omega, HB3.out, HXP3.out, own_nil _ _ _ _ _, fun i hi => absurd hi (Nat.not_lt_zero i), fun i hi => absurd hi (Nat.not_lt_zero i)⟩
          case round =>
            obtain ⟨k, gs, ps, rfl, hk, hB, xp, hO, hG, hbad⟩ := hrel
            have HO := Lib.hid hO; have HG := Lib.hid hG; have HBAD := Lib.hid hbad; have HXP := Lib.hid xp
            have lp := blk_lt xp
            clear hO hG hbad
            by_cases hlt : k < P.length
            · go_light
              obtain ⟨b', off', ha', ck⟩ := str_cell (parts_strs xp hPl) hlt
              obtain ⟨rfl, rfl⟩ : pb = b' ∧ 0 = off' := by simpa using ha'
              rw [Nat.zero_add] at ck
              have h24 := HALL.out k hlt
              obtain ⟨p, hp⟩ : ∃ p, p = strD P k := ⟨_, rfl⟩
              rw [← hp] at ck h24
              have HPK := Lib.hid hp
              have HST := Lib.hid (set_any (t := p) (HS.out.below hB) HK.out h24)
              have r0 : (0 : Int) ≤ (k : Int) := by omega
              have r1 : (k : Int) < (P.length : Int) := by omega
              have w3' : IntKind.i64.wrap ((k : Int) + 1) = (k : Int) + 1 := IntWalk.i64_in _ (by omega)
              clear ha' hp h24 xp
              go_wp2_with (fail)
              (with_reducible refine HST.out.mono ?_)
              intro e w4 hw4
              unfold WordOut at hw4
              obtain ⟨hw4, hb4⟩ := hw4
              have hE4 : Ext2 wr w4 := hb4
              have hB4 := below_ext hB hE4
              obtain ⟨o, ho⟩ : ∃ o, o = setS F p.data.toList := ⟨_, rfl⟩
              rw [← ho] at hw4
              have HOO := Lib.hid ho
              clear ho hb4 ck
              cases o with
              | none =>
                obtain rfl : e = .panicked [{ v := .iface 27 (.int .i64 (200)), recovered := false }] := hw4
                have hwe : wordErr F R p = 200 := by unfold wordErr; rw [← HOO.out]; rfl
                have hbk : badW F R P k = true := by unfold badW; rw [← HPK.out, hwe]; rfl
                have hx : wordsE F R t = 200 := by rw [← HE.out, HE5.out, firstN_at HBAD.out hbk hlt, if_pos hlt, ← HPK.out, hwe]
                have HX := Lib.hid hx
                clear hwe hbk hx
                go_wp2_with (fail)
                exact ⟨rfl, wordsOut_no HX.out (by decide) hB4⟩
              | some l =>
                obtain ⟨v, rfl, hwv⟩ := hw4
                obtain ⟨g1, p1, rfl, hgs, hps⟩ := hwv
                have hgl : gL F p = l := by unfold gL; rw [← HOO.out]; rfl
                have hww : wW F p = widS F l l.length := by unfold wW; rw [hgl]
                obtain ⟨W, hW⟩ : ∃ W, W = widS F l l.length := ⟨_, rfl⟩
                rw [← hW] at hww ⊢
                have HGL := Lib.hid hgl; have HWW := Lib.hid hww
                have HGS := Lib.hid hgs; have HPS' := Lib.hid hps
                have HO4 := Lib.hid (HO.out.below hE4); have HG4 := Lib.hid (HG.out.below hE4); have hxp4 := Ext2.blk hE4 HXP.out
                have HXP4 := Lib.hid hxp4
                have hwe : wordErr F R p = if R.measure < W then 201 else 0 := by unfold wordErr; rw [← HOO.out, hww]; rfl
                have HWE := Lib.hid hwe
                have lp4 := blk_lt hxp4
                clear hgl hww hgs hps hxp4 HO HG HXP hW hwe hE4 lp
                go_wp2_with (fail)
                refine wp_name ?_
                intro w5 h5
                have hE5 : Ext2 w4 w5 := by rw [h5]; repeat' (first | exact Below.refl _ _ | assumption | refine below_drewN ?_ _ | refine Below.drew ?_ | refine Below.alloc ?_ (by first | assumption | omega | (simp <;> omega)) _ | refine Below.setCell ?_ (by first | assumption | omega | (simp <;> omega)) _ | refine Ext2.on (by assumption) ?_)
                obtain ⟨wb, hwb⟩ : ∃ n, n = w4.heap.size := ⟨_, rfl⟩
                have x8 : w5.heap[wb]? = some (Obj.cells #[.string p, .slice g1.a l.length g1.cap, .slice p1.a l.length p1.cap, .int .i64 W] 90) := by rw [h5, hwb]; exact blk_new _ _
                rw [← hwb]
                have hB5 := below_ext hB4 hE5
                have xs := (HS.out.below hB5).blk
                have HO5 := Lib.hid (HO4.out.below hE5); have HG5 := Lib.hid (HG4.out.below hE5); have HXP5 := Lib.hid (Ext2.blk hE5 HXP4.out)
                have HGS5 := Lib.hid (HGS.out.below hE5); have HPS5 := Lib.hid (HPS'.out.below hE5)
                have lwb : pb < wb := by omega
                clear h5 hE5 HO4 HG4 HXP4 HGS HPS' lp4 hwb
                have q8c := cell_blk x8
                have q8f := frz_blk x8
                have qsc := cell_blk xs
                have qsf := frz_blk xs
                by_cases hmw : W ≤ R.measure
                · have hd5 : decide (W ≤ R.measure) = true := decide_eq_true hmw
                  have hbk : badW F R P k = false := by unfold badW; rw [← HPK.out, HWE.out, if_neg (by omega)]; rfl
                  have HBK := Lib.hid hbk
                  clear hbk
                  go_wp2_with (fail)
                  refine region_ev [] [0, 1, 2, 3, 4, 5, 6, 7] [] [8] (by kernel_rfl) (by kernel_rfl) (by intro c a d v w h; cases d <;> exact h) ?_
                  simp only [picks, List.drop_succ_cons, List.drop_zero]
                  repeat (refine wpQ0_step (fun K hK => ?_); go_simp; (refine hK _ ?_; clear hK K))
                  refine wpQ0_nil ?_
                  repeat ((with_reducible refine wpQ2_step (fun K hK => ?_)); go_simp; first | ((with_reducible refine hK _ ?_); clear hK K) | (apply Exists.intro; refine ⟨fun x => ?_, hK _ ?_⟩; (fail); clear hK K))
                  refine wpQ2_nil ?_
                  refine Events.none_ fun w6 hg6 => ?_
                  simp only [picks, List.drop_succ_cons, List.drop_zero]
                  have hB6 := below_ext hB5 hg6
                  have x8 := Ext2.blk hg6 x8
                  have HO6 := Lib.hid (HO5.out.below hg6); have HG6 := Lib.hid (HG5.out.below hg6); have HXP6 := Lib.hid (Ext2.blk hg6 HXP5.out)
                  have HGS6 := Lib.hid (HGS5.out.below hg6); have HPS6 := Lib.hid (HPS5.out.below hg6)
                  clear q8c q8f qsc qsf xs HO5 HG5 HXP5 HGS5 HPS5 hg6 hB5 hB4
                  have lw6 := blk_lt x8
                  go_wp2_with (fail)
                  (with_reducible refine (must_ok _ _).mono ?_)
                  rintro e w7 ⟨rfl, rfl⟩
                  have q8c := cell_blk x8
                  have q8f := frz_blk x8
                  go_wp2_with (at_builtin; refine app_one [.string p, .slice g1.a l.length g1.cap, .slice p1.a l.length p1.cap, .int .i64 W] elWord rfl _ _ rfl (pb + 1) rfl (HO6.out.below (below_alloc' _ _)) w6.heap.size 1 rfl (blk_new _ _) (by simp [Value.oneCell']) (by omega) (by simp; omega) ?_; intro v' w7 hO7 hg7)
                  have hB7 : Below w.heap.size w w7 := app_below (hB6.alloc hB6.size _) (HO6.out.below (below_alloc' _ _)) (by have := HPB.out; omega) (by simp; exact Nat.le_succ_of_le hB6.size) hg7
                  have xp7 := app_keeps (HO6.out.below (below_alloc' _ _)) hg7 (blk_alloc HXP6.out _) (by omega)
                  have hty : (3 : TypeId) ≠ 90 := by decide
                  have hG7 : GlyAt w7 F P (putS gs k g1) (putS ps k p1) (k + 1) := by
                    refine ((HG6.out.below (below_alloc' _ _)).app (HO6.out.below (below_alloc' _ _)) hty hg7).put ?_ ?_
                    · rw [← HPK.out, HGL.out]; exact (HGS6.out.below (below_alloc' _ _)).app (HO6.out.below (below_alloc' _ _)) hty hg7
                    · rw [← HPK.out, HGL.out]; exact (HPS6.out.below (below_alloc' _ _)).app (HO6.out.below (below_alloc' _ _)) hty hg7
                  have hO7' : OwnR w7 (pb + 1) 90 4 v' (k + 1) (wordC F P (putS gs k g1) (putS ps k p1)) := hO7.congr fun i j hi hj => by
                    by_cases hik : i = k
                    · subst hik
                      have hj4 : j < 4 := hj
                      rw [upd_at]
                      unfold wordC putS
                      rw [if_pos rfl, if_pos rfl, ← HPK.out, HGL.out, HWW.out]
                      rcases (by omega : j = 0 ∨ j = 1 ∨ j = 2 ∨ j = 3) with rfl | rfl | rfl | rfl <;> rfl
                    · rw [upd_lt (by omega), wordC_put (by omega)]
                  have HO7 := Lib.hid hO7'; have HG7 := Lib.hid hG7; have HXP7 := Lib.hid xp7
                  clear hO7 hg7 hG7 hO7' xp7 q8c q8f x8 hB6 HO6 HG6 HXP6
                  go_roundw
                  case rel =>
                    refine ⟨k + 1, putS gs k g1, putS ps k p1, by go_num, by omega, hB7, HXP7.out, HO7.out, HG7.out, fun i hi => ?_⟩
                    by_cases hik : i = k
                    · rw [hik]; exact HBK.out
                    · exact HBAD.out i (by omega)
                  case measure => simp [intOf]; omega
                · have hd5 : decide (W ≤ R.measure) = false := decide_eq_false hmw
                  have hwe2 : wordErr F R p = 201 := by rw [HWE.out, if_pos (by omega)]
                  have hbk : badW F R P k = true := by unfold badW; rw [← HPK.out, hwe2]; rfl
                  have hx : wordsE F R t = 201 := by rw [← HE.out, HE5.out, firstN_at HBAD.out hbk hlt, if_pos hlt, ← HPK.out, hwe2]
                  have HX := Lib.hid hx
                  clear hwe2 hbk hx
                  go_wp2_with (fail)
                  refine region_ev [] [0, 1, 2, 3, 4, 5, 6, 7] [] [8] (by kernel_rfl) (by kernel_rfl) (by intro c a d v w h; cases d <;> exact h) ?_
                  simp only [picks, List.drop_succ_cons, List.drop_zero]
                  repeat (refine wpQ0_step (fun K hK => ?_); go_simp; (refine hK _ ?_; clear hK K))
                  refine wpQ0_nil ?_
                  repeat ((with_reducible refine wpQ2_step (fun K hK => ?_)); go_simp; first | ((with_reducible refine hK _ ?_); clear hK K) | (apply Exists.intro; refine ⟨fun x => ?_, hK _ ?_⟩; (fail); clear hK K))
                  refine wpQ2_nil ?_
                  refine Events.none_ fun w6 hg6 => ?_
                  simp only [picks, List.drop_succ_cons, List.drop_zero]
                  have hB6 := below_ext hB5 hg6
                  go_wp2_with (fail)
                  (with_reducible refine (must_no _ _).mono ?_)
                  rintro e w7 ⟨rfl, rfl⟩
                  go_wp2_with (fail)
                  exact ⟨rfl, wordsOut_no HX.out (by decide) hB6⟩
            · obtain rfl : k = P.length := by omega
              have r8 : ¬ (P.length : Int) < (P.length : Int) := by omega
              have hx : wordsE F R t = 0 := by
                rw [← HE.out, HE5.out, firstN_none HBAD.out, if_neg (Nat.lt_irrefl _)]
              obtain ⟨⟨a', cp'⟩, rfl, hro⟩ := HO.out.sl
              have hwa : WordsAt wr F P gs ps ⟨a', cp'⟩ := ⟨hro, HG.out, own_ty HO.out⟩
              have HWA := Lib.hid hwa; have HX := Lib.hid hx
              clear hlt hx hro hwa HO HG HBAD xp
              go_wp2_with (fail)
              go_ret
              show WordsOut w F R t _ _
              refine ⟨?_, hB⟩
              rw [if_pos HX.out, ← HP.out]
              exact ⟨⟨a', cp'⟩, gs, ps, rfl, HWA.out⟩
end Go.Proofs.YtahgbecfaihfpaaDoor
