/-
  Regions in which two operations may come in either order (a call that makes memory, and a read), then stages.
  Regions that draw, in the body of an iterator: the reads and calls in any order, then the tail (that holds a yield) in the fence.
  Regions that draw, whose last operation waits for all others: the others as a region of their own, the last one behind them.
  Regions that draw: reads that hold in a class of worlds float; the rest goes by a tree of orders. Program independent.
  Regions that draw: a tree of orders in which operations without an effect may float anywhere. Program independent.
-/
import Derived.Test.YtfpaihjcbpaneaaGreatDoorDRegB
import Derived.OrdersIn
import Derived.TacticsIn
namespace Go.Proofs.YtfpaihjcbpaneaaGreatDoor
open Go.RowKit
section
variable {P : Program} {Q : Exit → Act → World → Prop}
def planP (ops : Array Oper) (fs : List Nat) (i j : Nat) (st : List Stg) : Bool :=
  Region.noSelect ops && decide (fs.length + (1 + 1 + stN st) = ops.size) && hinvB .any ops (fun _ => false) (Array.replicate ops.size false) && takes3B .any ops (fun _ => false) fs (Array.replicate ops.size false) &&
  (let L := markAll fs (Array.replicate ops.size false)
  decide (Region.ready .any ops L = [i, j]) && fs.all (fun k => decide (k < ops.size)) && decide (i < ops.size) && decide (j < ops.size) && seqB .any ops [j] (L.setIfInBounds i true) && seqB .any ops [i] (L.setIfInBounds j true) &&
  decide (markAll [i] (L.setIfInBounds j true) = markAll [j] (L.setIfInBounds i true)) && stB ops st (markAll [j] (L.setIfInBounds i true)))
theorem region_pair (fs : List Nat) (i j : Nat) (st : List Stg) {id : Nat} {l : List Oper} {a : Act} {w : World} (hm : P.follows .mixedOrders = true) (hB : planP l.toArray fs i j st = true)
    (hQ : ∀ c a (d : Option Tmp) v w, Q (.panic c) (a.put d v) w → Q (.panic c) a w)
    (h : wpQ0 P l.toArray (fun a1 => ∀ W, Ext2 w W → wpTl P l.toArray Q (wpSt P l Q st) (picks l [i, j]) a1 W ∧ wpTl P l.toArray Q (wpSt P l Q st) (picks l [j, i]) a1 W) (picks l fs) a) : (Code.region id l.toArray true).wp P Q a w := by
  refine wp_region_any hm ?_
  simp only [planP, Bool.and_eq_true, decide_eq_true_eq] at hB
  obtain ⟨⟨⟨⟨hns, hn⟩, hinv⟩, htk⟩, ⟨⟨⟨⟨⟨⟨⟨hrd, hfs⟩, hi⟩, hj⟩, hs1⟩, hs2⟩, heq⟩, hst⟩⟩ := hB
  have hfs' : ∀ k ∈ fs, k < l.length := fun k hk => by
    have := List.all_eq_true.1 hfs k hk
    simpa using this
  have hi' : i < l.length := by simpa using hi
  have hj' : j < l.length := by simpa using hj
  have hki : l.toArray[i]? = some l[i] := by simp
  have hkj : l.toArray[j]? = some l[j] := by simp
  have hpi : picks l [i, j] = [l[i], l[j]] := by rw [picks, List.drop_eq_getElem_cons hi', picks, List.drop_eq_getElem_cons hj']; rfl
  have hpj : picks l [j, i] = [l[j], l[i]] := by rw [picks, List.drop_eq_getElem_cons hj', picks, List.drop_eq_getElem_cons hi']; rfl
  rw [← hn]
  refine wpAny_floats (tl := fun _ => false) hns hQ fs (picks l fs) _ a (picks_map hfs') (hinv_of (by rw [hn]; exact hinv)) (by rw [hn]; exact htk) (wpQ0_mono _ _ (fun a1 h1 _ => ?_) h)
  obtain ⟨g1, g2⟩ := h1 _ (Ext2.drew w)
  rw [hpi] at g1
  rw [hpj] at g2
  rw [hn]
  rw [show 1 + 1 + stN st = ([j].length + stN st) + 1 by simp; omega]
  refine ⟨fun h1 => (by rw [hrd] at h1; cases h1), fun k hk => ?_⟩
  rw [hrd] at hk
  rcases List.mem_cons.1 hk with rfl | hk
  · exact wpOp_mono (fun a' w' h' => wpAny_tl (fun a2 w2 h2 => wpAny_st hns hQ st _ a2 w2 hst h2) [j] [l[j]] _ a' w' (by simp) rfl hs1 h') (wpOp_then hki g1)
  · obtain rfl : k = j := by simpa using hk
    exact wpOp_mono (fun a' w' h' => wpAny_tl (fun a2 w2 h2 => wpAny_st hns hQ st _ a2 w2 hst h2) [i] [l[i]] _ a' w' (by simp) heq hs2 h') (wpOp_then hkj g2)
end
end Go.Proofs.YtfpaihjcbpaneaaGreatDoor
namespace Go.Proofs.YtfpaihjcbpaneaaGreatDoor
open Go.RowKit
set_option linter.unusedVariables false
set_option linter.unusedSimpArgs false
section
variable {P : Program} {md : Region.Mode} {ops : Array Oper} {Q : Exit → Act → World → Prop} {C : World → Prop} {n : Nat} {F : Fence}
theorem wp_to_wide {o : Oper} {a : Act} {w : World} {K : Act → World → Prop} (h : o.wp P a w K Q) : o.wpIn Fence.wide n P a w K Q := by
  refine ⟨fun _ _ => trivial, ?_⟩
  show o.uponIn Fence.wide n P a K Q ((execOp a.eval o).run P w)
  unfold Oper.wp at h
  generalize (execOp a.eval o).run P w = r at *
  cases r with
  | ok x w' =>
    cases x with
    | enter f args => exact ⟨fun h0 => (by cases h0), callsIn_wide.2 h⟩
    | row r args => exact ⟨fun h0 => (by cases h0), fun c cs _ => by obtain ⟨v, w', r, s⟩ := h c cs; exact ⟨v, w', r, stepsIn_wide.2 s⟩⟩
    | _ => first | exact h | exact h.elim
  | halt x w' => cases x <;> first | exact h | exact h.elim
theorem wpOp_to_wide (hq : ¬ LetsOut Q) {i : Nat} {a : Act} {w : World} {K K' : Act → World → Prop} (hK : ∀ a w, K a w → K' a w) (h : wpOp P ops Q i K a w) : wpOpIn Fence.wide n P ops Q i K' a w := by
  unfold wpOp at h; unfold wpOpIn
  cases ho : ops[i]? with
  | none => rw [ho] at h; exact hK _ _ h
  | some o =>
    rw [ho] at h
    simp only at h ⊢
    by_cases hw : Region.wanted o (yielded ops a.tmps) = true
    · rw [if_pos hw] at h ⊢
      rcases h with h | h
      · exact wp_to_wide (Oper.wp_mono hK h)
      · exact (hq h.2).elim
    · rw [if_neg hw] at h ⊢
      exact ⟨fun _ _ => trivial, hK _ _ h⟩
/-- How an operation's answer is carried into a fence. -/
def Conv (F : Fence) (n : Nat) (P : Program) (ops : Array Oper) (Q : Exit → Act → World → Prop) : Prop := ∀ (i : Nat) (a : Act) (w : World) (K K' : Act → World → Prop), (∀ a w, K a w → K' a w) → wpOp P ops Q i K a w → wpOpIn F n P ops Q i K' a w
variable {D tl : Nat → Bool} {L : Array Bool → Act → World → Prop}
theorem wpAnyIn_of_wpE3 (hcv : Conv F n P ops Q) {g : Nat} (hL : ∀ listed a W, L listed a W → wpAnyIn F n P md ops Q g listed a W) : ∀ (f : Nat) (listed : Array Bool) (a : Act) (W : World), C W → wpE3 P md ops Q C tl L f listed a W → wpAnyIn F n P md ops Q (f + g) listed a W
  | 0, listed, a, W, hC, h => by rw [Nat.zero_add]; exact hL _ _ _ (h W (Below.refl _ _) hC)
  | f + 1, listed, a, W, hC, h => by
    rw [show f + 1 + g = (f + g) + 1 by omega]
    obtain ⟨h1, h2⟩ := h W (Below.refl _ _) hC
    exact ⟨fun h0 => absurd h0 h1, fun i hi => hcv i _ _ _ _ (fun a' w' h' => wpAnyIn_of_wpE3 hcv hL f _ a' w' h'.1 h'.2) (h2 i hi).2⟩
theorem wpAnyIn_of_seqL : ∀ (ts : List Nat) (l : List Oper) (listed : Array Bool) (a : Act) (w : World), ts.map (fun i => ops[i]?) = l.map some →
    seqLB md ops ts listed = true → wpListIn F n P ops Q l a w → wpAnyIn F n P md ops Q ts.length listed a w
  | [], [], _, _, _, _, hB, h => ⟨by simpa [seqLB] using hB, h⟩
  | [], _ :: _, _, _, _, hm, _, _ => by cases hm
  | _ :: _, [], _, _, _, hm, _, _ => by cases hm
  | k :: ts, o :: l, listed, a, w, hm, hB, h => by
    simp only [List.map_cons, List.cons.injEq] at hm
    simp only [List.length_cons, seqLB, Bool.and_eq_true, decide_eq_true_eq] at hB
    refine ⟨fun h1 => (by rw [hB.1] at h1; cases h1), fun i hi => ?_⟩
    rw [hB.1] at hi
    have hik : i = k := by simpa using hi
    subst hik
    have hw : wpOpIn F n P ops Q i (wpListIn F n P ops Q l) a w := by unfold wpOpIn; simp only [hm.1]; exact h
    unfold wpOpIn at hw ⊢
    cases ho : ops[i]? with
    | none => rw [ho] at hw; exact wpAnyIn_of_seqL ts l _ a w hm.2 hB.2 hw
    | some o' =>
      rw [ho] at hw
      simp only at hw ⊢
      by_cases hwt : Region.wanted o' (yielded ops a.tmps) = true
      · rw [if_pos hwt] at hw ⊢
        exact Oper.wpIn_mono (fun a' w' h' => wpAnyIn_of_seqL ts l _ a' w' hm.2 hB.2 h') hw
      · rw [if_neg hwt] at hw ⊢
        exact ⟨hw.1, wpAnyIn_of_seqL ts l _ _ _ hm.2 hB.2 hw.2⟩
def planDB (ops : Array Oper) (hs ts : List Nat) : Bool :=
  Region.noSelect ops && decide (hs.length + ts.length = ops.size) && (hs ++ ts).all (fun i => decide (i < ops.size)) &&
  waitsB .any ops (fun _ => false) (fun i => ts.contains i) &&
  takes3B .any ops (fun i => ts.contains i) hs (Array.replicate ops.size false) &&
  seqLB .any ops ts (markAll hs (Array.replicate ops.size false))
theorem wpAnyIn_ev (hs ts : List Nat) {l : List Oper} {a : Act} {w : World} (hcv : Conv F n P l.toArray Q) (hB : planDB l.toArray hs ts = true)
    (hQ : ∀ c a (d : Option Tmp) v w, Q (.panic c) (a.put d v) w → Q (.panic c) a w)
    (h : wpQ2 P l.toArray (Ext2 w) (fun a2 => ∀ W, Ext2 w W → wpListIn F n P l.toArray Q (picks l ts) a2 W) (picks l hs) a) :
    wpAnyIn F n P .any l.toArray Q l.toArray.size (Array.replicate l.toArray.size false) a w.drew := by
  simp only [planDB, Bool.and_eq_true, decide_eq_true_eq] at hB
  obtain ⟨⟨⟨⟨⟨hns, hlen⟩, hlt⟩, hwt⟩, hhs⟩, hts⟩ := hB
  have hlt' : ∀ i ∈ hs ++ ts, i < l.length := fun i hi => by
    have := List.all_eq_true.1 hlt i hi
    simpa using this
  suffices key : wpAnyIn F n P .any l.toArray Q (hs.length + ts.length) (Array.replicate l.toArray.size false) a w.drew by rwa [hlen] at key
  have hE : wpE3 P .any l.toArray Q (Ext2 w) (fun i => ts.contains i) (fun listed a W => seqLB .any l.toArray ts listed = true ∧ wpListIn F n P l.toArray Q (picks l ts) a W) (hs.length + 0) (Array.replicate l.toArray.size false) a w := by
    refine wpE3_takes (D := fun _ => false) (Ext2.cr w) hns (waits3 hwt) hQ (fun listed a W hL j hj => ?_) hs (picks l hs) _ a (picks_map fun i hi => hlt' i (by simp [hi])) (HInv.start _) (fun i hi => by cases hi) hhs ?_
    · have h3 := hL.1
      cases ts with
      | nil => simp only [seqLB, List.isEmpty_iff] at h3; rw [h3] at hj; cases hj
      | cons k ts =>
        simp only [seqLB, Bool.and_eq_true, decide_eq_true_eq] at h3
        rw [h3.1] at hj
        simp at hj; simp [hj]
    · exact wpQ2_mono _ _ (fun a2 h2 inv2 => fun W' hb hC => ⟨hts, h2 W' hC⟩) h
  have := wpAnyIn_of_wpE3 (F := F) (n := n) hcv (g := ts.length) (fun listed a W hL => wpAnyIn_of_seqL ts (picks l ts) listed a W (picks_map fun i hi => hlt' i (by simp [hi])) hL.1 hL.2) (hs.length + 0) _ a w.drew (Ext2.drew w) (hE.later (Ext2.drew w))
  simpa using this
theorem wide_region_ev (hs ts : List Nat) {id : Nat} {l : List Oper} {a : Act} {w : World} (hq : ¬ LetsOut Q) (hm : P.follows .mixedOrders = true) (hB : planDB l.toArray hs ts = true)
    (hQ : ∀ c a (d : Option Tmp) v w, Q (.panic c) (a.put d v) w → Q (.panic c) a w)
    (h : wpQ2 P l.toArray (Ext2 w) (fun a2 => ∀ W, Ext2 w W → wpListIn Fence.wide n P l.toArray Q (picks l ts) a2 W) (picks l hs) a) :
    (Code.region id l.toArray true).wpIn Fence.wide n P Q a w := wpIn_region_any hm (wpAnyIn_ev hs ts (fun _ _ _ _ _ hK h => wpOp_to_wide hq hK h) hB hQ h)
theorem round_region_evD {l0 : Nat} (hs ts : List Nat) {id : Nat} {l : List Oper} {a : Act} {w : World} (hn : noDefers l.toArray = true) (hq : ¬ LetsOut Q) (hm : P.follows .mixedOrders = true) (hB : planDB l.toArray hs ts = true)
    (hQ : ∀ c a (d : Option Tmp) v w, Q (.panic c) (a.put d v) w → Q (.panic c) a w)
    (h : wpQ2 P l.toArray (Ext2 w) (fun a2 => ∀ W, Ext2 w W → wpListIn (Fence.wide.inRound l0) n P l.toArray Q (picks l ts) a2 W) (picks l hs) a) :
    (Code.region id l.toArray true).wpIn (Fence.wide.inRound l0) n P Q a w := wpIn_region_any hm (wpAnyIn_ev hs ts (fun _ _ _ _ _ hK h => wpOp_to_in hn hq hK h) hB hQ h)
theorem wpList_to_in {P : Program} {ops : Array Oper} {Q : Exit → Act → World → Prop} {l0 n : Nat} (hq : ¬ LetsOut Q) : ∀ (l : List Oper) (a : Act) (w : World), (∀ o ∈ l, ∀ c, o.op ≠ .defer c) → wpList P ops Q l a w → wpListIn (Fence.wide.inRound l0) n P ops Q l a w
  | [], _, _, _, h => h
  | o :: l, a, w, hn, h => by
    have ih := fun (a : Act) (w : World) (h : wpList P ops Q l a w) => wpList_to_in (n := n) (l0 := l0) hq l a w (fun o ho => hn o (List.mem_cons_of_mem _ ho)) h
    simp only [wpList] at h
    simp only [wpListIn]
    split
    · rename_i hw
      rw [if_pos hw] at h
      rcases h with h | h
      · exact wp_to_in (hn o List.mem_cons_self) (Oper.wp_mono ih h)
      · exact (hq h.2).elim
    · rename_i hw
      rw [if_neg hw] at h
      exact ⟨fun _ _ => trivial, ih _ _ h⟩
theorem round_region_list {P : Program} {Q : Exit → Act → World → Prop} {l0 n id : Nat} {l : List Oper} {a : Act} {w : World} (hn : noDefers l.toArray = true) (hq : ¬ LetsOut Q) (h : wpList P l.toArray Q l a w) : (Code.region id l.toArray false).wpIn (Fence.wide.inRound l0) n P Q a w :=
  wpIn_region_lit (wpList_to_in hq l a w (fun o ho => by
    obtain ⟨i, hi, rfl⟩ := List.mem_iff_getElem.1 ho
    exact noDefers_at hn (i := i) (by simp [hi])) h)
/-! A region whose reads cannot panic: nothing is asked of the post at a panic. -/
def QNo : Exit → Act → World → Prop := fun _ _ _ => False
theorem wp_of_no {o : Oper} {a : Act} {w : World} {K : Act → World → Prop} (h : o.wp P a w K QNo) : o.wp P a w K Q := by
  unfold Oper.wp at *
  generalize (execOp a.eval o).run P w = r at *
  cases r with
  | ok x w' =>
    cases x with
    | enter f args =>
      refine Calls.mono h ?_
      intro e w2 he
      cases e with
      | returned v => exact he
      | panicked c => exact he.elim
      | outgrown => obtain ⟨_, _, h⟩ := he; exact h.elim
    | _ => first | exact h | exact h.elim
  | halt x w' => cases x <;> first | exact h.elim | exact h
theorem wpOp_of_no {i : Nat} {a : Act} {w : World} {K K' : Act → World → Prop} (hK : ∀ a w, K a w → K' a w) (h : wpOp P ops QNo i K a w) : wpOp P ops Q i K' a w := by
  unfold wpOp at *
  cases ho : ops[i]? with
  | none => rw [ho] at h; exact hK _ _ h
  | some o =>
    rw [ho] at h
    simp only at h ⊢
    by_cases hw : Region.wanted o (yielded ops a.tmps) = true
    · rw [if_pos hw] at h ⊢
      rcases h with h | ⟨_, _, _, h⟩
      · exact .inl (Oper.wp_mono hK (wp_of_no h))
      · exact h.elim
    · rw [if_neg hw] at h ⊢
      exact hK _ _ h
theorem wpAny_of_no {g : Nat} (hL : ∀ listed a W, L listed a W → wpAny P md ops Q g listed a W) : ∀ (f : Nat) (listed : Array Bool) (a : Act) (W : World), C W → wpE3 P md ops QNo C tl L f listed a W → wpAny P md ops Q (f + g) listed a W
  | 0, listed, a, W, hC, h => by rw [Nat.zero_add]; exact hL _ _ _ (h W (Below.refl _ _) hC)
  | f + 1, listed, a, W, hC, h => by
    rw [show f + 1 + g = (f + g) + 1 by omega]
    obtain ⟨h1, h2⟩ := h W (Below.refl _ _) hC
    exact ⟨fun h0 => absurd h0 h1, fun i hi => wpOp_of_no (fun a' w' h' => wpAny_of_no hL f _ a' w' h'.1 h'.2) (h2 i hi).2⟩
theorem wpAny_evC (hs ts : List Nat) {l : List Oper} {a : Act} {w : World} (hB : planDB l.toArray hs ts = true)
    (h : wpQ2 P l.toArray (Ext2 w) (fun a2 => ∀ W, Ext2 w W → wpList P l.toArray Q (picks l ts) a2 W) (picks l hs) a) :
    wpAny P .any l.toArray Q l.toArray.size (Array.replicate l.toArray.size false) a w.drew := by
  simp only [planDB, Bool.and_eq_true, decide_eq_true_eq] at hB
  obtain ⟨⟨⟨⟨⟨hns, hlen⟩, hlt⟩, hwt⟩, hhs⟩, hts⟩ := hB
  have hlt' : ∀ i ∈ hs ++ ts, i < l.length := fun i hi => by
    have := List.all_eq_true.1 hlt i hi
    simpa using this
  suffices key : wpAny P .any l.toArray Q (hs.length + ts.length) (Array.replicate l.toArray.size false) a w.drew by rwa [hlen] at key
  have hE : wpE3 P .any l.toArray QNo (Ext2 w) (fun i => ts.contains i) (fun listed a W => seqLB .any l.toArray ts listed = true ∧ wpList P l.toArray Q (picks l ts) a W) (hs.length + 0) (Array.replicate l.toArray.size false) a w := by
    refine wpE3_takes (D := fun _ => false) (Ext2.cr w) hns (waits3 hwt) (fun _ _ _ _ _ h => h) (fun listed a W hL j hj => ?_) hs (picks l hs) _ a (picks_map fun i hi => hlt' i (by simp [hi])) (HInv.start _) (fun i hi => by cases hi) hhs ?_
    · have h3 := hL.1
      cases ts with
      | nil => simp only [seqLB, List.isEmpty_iff] at h3; rw [h3] at hj; cases hj
      | cons k ts =>
        simp only [seqLB, Bool.and_eq_true, decide_eq_true_eq] at h3
        rw [h3.1] at hj
        simp at hj; simp [hj]
    · exact wpQ2_mono _ _ (fun a2 h2 inv2 => fun W' hb hC => ⟨hts, h2 W' hC⟩) h
  have := wpAny_of_no (g := ts.length) (fun listed a W hL => wpAny_of_seqL ts (picks l ts) listed a W (picks_map fun i hi => hlt' i (by simp [hi])) hL.1 hL.2) (hs.length + 0) _ a w.drew (Ext2.drew w) (hE.later (Ext2.drew w))
  simpa using this
theorem region_evC (hs ts : List Nat) {id : Nat} {l : List Oper} {a : Act} {w : World} (hm : P.follows .mixedOrders = true) (hB : planDB l.toArray hs ts = true)
    (h : wpQ2 P l.toArray (Ext2 w) (fun a2 => ∀ W, Ext2 w W → wpList P l.toArray Q (picks l ts) a2 W) (picks l hs) a) :
    (Code.region id l.toArray true).wp P Q a w := wp_region_any hm (wpAny_evC hs ts hB h)
end
end Go.Proofs.YtfpaihjcbpaneaaGreatDoor
namespace Go.Proofs.YtfpaihjcbpaneaaGreatDoor
open Go.RowKit
set_option linter.unusedVariables false
set_option linter.unusedSimpArgs false
section
variable {P : Program} {Q : Exit → Act → World → Prop}
def snocB (l : List Oper) (o : Oper) : Bool :=
  orderedB .any (l ++ [o]).toArray && (l ++ [o]).all (fun x => x.guard.isNone) &&
  (let M := closeM .any (l ++ [o]).toArray (l.length + 1) (predsOf .any (l ++ [o]).toArray l.length); (List.range l.length).all fun i => M.contains i)
theorem push_getD {listed : Array Bool} {i : Nat} (d : Bool) (h : i < listed.size) : (listed.push false).getD i d = listed.getD i d := by
  rw [Array.getD_eq_getD_getElem?, Array.getD_eq_getD_getElem?, Array.getElem?_push, if_neg (by omega)]
theorem push_last {listed : Array Bool} (d : Bool) : (listed.push false).getD listed.size d = false := by simp
theorem push_set {listed : Array Bool} {i : Nat} (hi : i < listed.size) : (listed.push false).setIfInBounds i true = (listed.setIfInBounds i true).push false := by
  refine Array.ext_getElem? fun j => ?_
  rw [Array.getElem?_setIfInBounds, Array.getElem?_push, Array.getElem?_push, Array.getElem?_setIfInBounds]
  simp only [Array.size_setIfInBounds, Array.size_push]
  by_cases hj : j = listed.size
  · subst hj; rw [if_neg (by omega), if_pos rfl, if_pos rfl]
  · rw [if_neg hj, if_neg hj]
    by_cases hij : i = j
    · subst hij; rw [if_pos rfl, if_pos rfl, if_pos (by omega), if_pos hi]
    · rw [if_neg hij, if_neg hij]
theorem wp_back {o : Oper} {a : Act} {w : World} {K : Act → World → Prop} {N : Act → World → Prop} (h : o.wp P a w K (Exit.then N Q)) : o.wp P a w K Q := by
  unfold Oper.wp Oper.upon at *
  generalize (execOp a.eval o).run P w = r at *
  cases r with
  | ok x w' =>
    cases x with
    | enter f args =>
      refine Calls.mono h ?_
      intro e w2 he
      cases e <;> exact he
    | _ => exact h
  | halt x w' => cases x <;> exact h
theorem wpOp_snoc {l : List Oper} {o : Oper} (hg : (l ++ [o]).all (fun x => x.guard.isNone) = true) {i : Nat} (hi : i < l.length) {a : Act} {w : World} {K K' N : Act → World → Prop} (hK : ∀ a w, K a w → K' a w) (h : wpOp P l.toArray (Exit.then N Q) i K a w) : wpOp P (l ++ [o]).toArray Q i K' a w := by
  have e1 : l.toArray[i]? = some l[i] := by simp [hi]
  have e2 : (l ++ [o]).toArray[i]? = some l[i] := by simp [List.getElem?_append, hi]
  have e3 : l[i].guard = none := by
    have := List.all_eq_true.1 hg l[i] (by simp)
    simpa using this
  unfold wpOp at *
  rw [e1] at h; rw [e2]
  simp only [Region.wanted, e3, if_true] at h ⊢
  rcases h with h | h
  · exact .inl (Oper.wp_mono hK (wp_back h))
  · exact .inr h
theorem wpAny_snoc {l : List Oper} {o : Oper} (hB : snocB l o = true) : ∀ (f : Nat) (listed : Array Bool) (a : Act) (w : World), listed.size = l.length →
    (∀ j oj, l[j]? = some oj → listed.getD j false = true → ∀ e ∈ oj.after, Region.binds .any e = true → listed.getD e.on false = true) →
    wpAny P .any l.toArray (Exit.then (fun a w => wpList P (l ++ [o]).toArray Q [o] a w) Q) f listed a w → wpAny P .any (l ++ [o]).toArray Q (f + 1) (listed.push false) a w := by
  simp only [snocB, Bool.and_eq_true] at hB
  obtain ⟨⟨hord, hg⟩, hcl⟩ := hB
  have hord1 : orderedB .any l.toArray = true := List.all_eq_true.2 fun j hj => by
    have hj' : j < l.length := by simpa using hj
    have h1 := List.all_eq_true.1 hord j (by simp; omega)
    have e1 : l.toArray[j]? = some l[j] := by simp [hj']
    have e2 : (l ++ [o]).toArray[j]? = some l[j] := by simp [List.getElem?_append, hj']
    rw [e2] at h1; rw [e1]; exact h1
  have hedge : ∀ j (hj : j < l.length), ∀ e ∈ (l[j]'hj).after, Region.binds .any e = true → e.on < j := fun j hj e he hb => by
    have h1 := List.all_eq_true.1 hord1 j (by simpa using hj)
    rw [show l.toArray[j]? = some l[j] by simp [hj]] at h1
    have h2 := Array.all_eq_true_iff_forall_mem.1 h1 e he
    rw [hb] at h2; simpa using h2
  have hlast : ∀ e ∈ o.after, Region.binds .any e = true → e.on < l.length := fun e he hb => by
    have h1 := List.all_eq_true.1 hord l.length (by simp)
    rw [show (l ++ [o]).toArray[l.length]? = some o by simp] at h1
    have h2 := Array.all_eq_true_iff_forall_mem.1 h1 e he
    rw [hb] at h2; simpa using h2
  -- what may come up
  have hready : ∀ (listed : Array Bool), listed.size = l.length → ∀ i, i < l.length → (i ∈ Region.ready .any (l ++ [o]).toArray (listed.push false) ↔ i ∈ Region.ready .any l.toArray listed) := fun listed hs i hi => by
    rw [mem_ready, mem_ready, push_getD true (by omega), show (l ++ [o]).toArray[i]? = some l[i] by simp [List.getElem?_append, hi], show l.toArray[i]? = some l[i] by simp [hi]]
    constructor
    · rintro ⟨h1, oj, h2, h3⟩
      refine ⟨h1, oj, h2, fun e he hb => ?_⟩
      cases h2
      have := h3 e he hb
      rwa [push_getD false (by have := hedge i hi e he hb; omega)] at this
    · rintro ⟨h1, oj, h2, h3⟩
      refine ⟨h1, oj, h2, fun e he hb => ?_⟩
      cases h2
      rw [push_getD false (by have := hedge i hi e he hb; omega)]
      exact h3 e he hb
  have hfin : ∀ (listed : Array Bool), listed.size = l.length → Region.ready .any l.toArray listed = [] → ∀ i, listed.getD i true = true := fun listed hs h0 i => by
    cases h1 : listed.getD i true with
    | true => rfl
    | false => exact absurd h0 (ready_some hord1 (by simpa using hs) i h1)
  have hdone : ∀ (f : Nat) (listed : Array Bool) (a : Act) (w : World), listed.size = l.length → Region.ready .any l.toArray listed = [] → wpList P (l ++ [o]).toArray Q [o] a w → wpAny P .any (l ++ [o]).toArray Q (f + 1) (listed.push false) a w := fun f listed a w hs h0 h => by
    have hall := hfin listed hs h0
    have hk : ∀ i, i ∈ Region.ready .any (l ++ [o]).toArray (listed.push false) → i = l.length := fun i hi => by
      have hlt : i < (l ++ [o]).toArray.size := by obtain ⟨_, oj, h2, _⟩ := mem_ready.1 hi; exact (Array.getElem?_eq_some_iff.1 h2).1
      simp at hlt
      rcases Nat.lt_or_ge i l.length with h1 | h1
      · have := (hready listed hs i h1).1 hi
        rw [h0] at this; cases this
      · omega
    have hkr : l.length ∈ Region.ready .any (l ++ [o]).toArray (listed.push false) := by
      refine mem_ready.2 ⟨by rw [← hs]; exact push_last _, o, by simp, fun e he hb => ?_⟩
      have h1 := hlast e he hb
      rw [push_getD false (by omega)]
      have h2 := hall e.on
      simp only [Array.getD_eq_getD_getElem?] at h2 ⊢
      rw [Array.getElem?_eq_getElem (by omega)] at h2 ⊢
      exact h2
    refine ⟨fun h1 => (by rw [h1] at hkr; cases hkr), fun i hi => ?_⟩
    have := hk i hi
    subst this
    have hw : wpOp P (l ++ [o]).toArray Q l.length (wpList P (l ++ [o]).toArray Q []) a w := by unfold wpOp; rw [show (l ++ [o]).toArray[l.length]? = some o by simp]; exact h
    refine wpOp_mono (fun a' w' h' => ?_) hw
    have hnil : Region.ready .any (l ++ [o]).toArray ((listed.push false).setIfInBounds l.length true) = [] := by
      refine List.eq_nil_iff_forall_not_mem.2 fun j hj => ?_
      obtain ⟨h1, oj, h2, _⟩ := mem_ready.1 hj
      have hlt := (Array.getElem?_eq_some_iff.1 h2).1
      simp at hlt
      by_cases hjl : l.length = j
      · subst hjl
        rw [Array.getD_eq_getD_getElem?, Array.getElem?_setIfInBounds_self_of_lt (by simp; omega)] at h1
        cases h1
      · rw [getD_set_ne true hjl, push_getD true (by omega), hall j] at h1
        cases h1
    cases f with
    | zero => exact ⟨hnil, h'⟩
    | succ f => exact ⟨fun _ => h', by rw [hnil]; simp⟩
  intro f
  induction f with
  | zero => exact fun listed a w hs _ h => hdone 0 listed a w hs h.1 h.2
  | succ f ih =>
    intro listed a w hs hc h
    by_cases h0 : Region.ready .any l.toArray listed = []
    · exact hdone _ listed a w hs h0 (h.1 h0)
    · -- the last one waits
      have hne : l.length ∉ Region.ready .any (l ++ [o]).toArray (listed.push false) := fun hk => by
        obtain ⟨_, oj, h2, h3⟩ := mem_ready.1 hk
        have e2 : oj = o := by simpa using h2.symm
        subst e2
        have inv : HInv .any (l ++ [oj]).toArray (fun t => decide (t = l.length)) (listed.push false) := by
          refine ⟨by simp [hs], fun j oj' hj hl e he hb => ?_, fun t ht _ => ?_⟩
          · have hjl : j < l.length := by
              have hlt := (Array.getElem?_eq_some_iff.1 hj).1
              simp at hlt
              rcases Nat.lt_or_ge j l.length with h1 | h1
              · exact h1
              · obtain rfl : j = l.length := by omega
                rw [← hs, push_last] at hl; cases hl
            have e4 : l[j]? = some oj' := by
              rw [show (l ++ [oj]).toArray[j]? = l[j]? by simp [List.getElem?_append, hjl]] at hj; exact hj
            rw [push_getD false (by omega)] at hl
            have h5 := hc j oj' e4 hl e he hb
            have h6 : e.on < j := by
              have e5 : oj' = l[j] := by rw [List.getElem?_eq_getElem hjl] at e4; exact (Option.some.inj e4).symm
              subst e5; exact hedge j hjl e he hb
            rw [push_getD false (by omega)]; exact h5
          · have : t = l.length := of_decide_eq_true ht
            subst this; rw [← hs]; exact push_last _
        have hM := closeM_listed inv (l.length + 1) _ (preds_listed (md := .any) (ops := (l ++ [oj]).toArray) (j := l.length) (fun o' ho' e he hb => by
          have e6 : o' = oj := by simpa using ho'.symm
          subst e6; exact h3 e he hb))
        refine h0 (List.eq_nil_iff_forall_not_mem.2 fun i hi => ?_)
        obtain ⟨h7, oi, h8, _⟩ := mem_ready.1 hi
        have hil : i < l.length := by have := (Array.getElem?_eq_some_iff.1 h8).1; simpa using this
        have h9 := hM i (by have := List.all_eq_true.1 hcl i (List.mem_range.2 hil); simpa using this)
        rw [push_getD false (by omega)] at h9
        rw [getD_both h7] at h9; cases h9
      have hmem : ∀ i, i ∈ Region.ready .any (l ++ [o]).toArray (listed.push false) → i < l.length ∧ i ∈ Region.ready .any l.toArray listed := fun i hi => by
        have hlt : i < (l ++ [o]).toArray.size := by obtain ⟨_, oj, h2, _⟩ := mem_ready.1 hi; exact (Array.getElem?_eq_some_iff.1 h2).1
        simp at hlt
        rcases Nat.lt_or_ge i l.length with h1 | h1
        · exact ⟨h1, (hready listed hs i h1).1 hi⟩
        · obtain rfl : i = l.length := by omega
          exact absurd hi hne
      refine ⟨fun h1 => ?_, fun i hi => ?_⟩
      · obtain ⟨i, hi⟩ := List.exists_mem_of_ne_nil _ h0
        have hil : i < l.length := by obtain ⟨_, oi, h8, _⟩ := mem_ready.1 hi; have := (Array.getElem?_eq_some_iff.1 h8).1; simpa using this
        have := (hready listed hs i hil).2 hi
        rw [h1] at this; cases this
      · obtain ⟨hil, hir⟩ := hmem i hi
        refine wpOp_snoc hg hil (fun a' w' h' => ?_) (h.2 i hir)
        rw [push_set (by omega)]
        refine ih _ a' w' (by simp [hs]) (fun j oj hj hl e he hb => ?_) h'
        by_cases hij : i = j
        · subst hij
          obtain ⟨_, oi, h8, h9⟩ := mem_ready.1 hir
          have e7 : oj = oi := by have : l.toArray[i]? = some oj := by simpa using hj
                                  rw [h8] at this; exact (Option.some.inj this).symm
          subst e7
          exact getD_set_true (h9 e he hb)
        · rw [getD_set_ne false hij] at hl
          exact getD_set_true (hc j oj hj hl e he hb)
theorem region_snoc {l0 l : List Oper} {o : Oper} (hl : l0 = l ++ [o]) {id : Nat} {a : Act} {w : World} (hm : P.follows .mixedOrders = true) (hB : snocB l o = true)
    (h : wpAny P .any l.toArray (Exit.then (fun a w => wpList P l0.toArray Q [o] a w) Q) l.toArray.size (Array.replicate l.toArray.size false) a w.drew) : (Code.region id l0.toArray true).wp P Q a w := by
  subst hl
  refine wp_region_any hm ?_
  have := wpAny_snoc (P := P) (Q := Q) hB l.toArray.size (Array.replicate l.toArray.size false) a w.drew (by simp) (fun j oj _ hl => (by rw [getD_replicate_false] at hl; cases hl)) h
  have e : (Array.replicate l.toArray.size false).push false = Array.replicate (l ++ [o]).toArray.size false := by simp [Array.replicate_succ]
  rw [e] at this
  have e2 : l.toArray.size + 1 = (l ++ [o]).toArray.size := by simp
  rw [e2] at this
  exact this
theorem round_region_snoc {l0 l : List Oper} {o : Oper} (hl : l0 = l ++ [o]) {l1 m id : Nat} {a : Act} {w : World} (hn : noDefers l0.toArray = true) (hq : ¬ LetsOut Q) (hm : P.follows .mixedOrders = true) (hB : snocB l o = true)
    (h : wpAny P .any l.toArray (Exit.then (fun a w => wpList P l0.toArray Q [o] a w) Q) l.toArray.size (Array.replicate l.toArray.size false) a w.drew) : (Code.region id l0.toArray true).wpIn (Fence.wide.inRound l1) m P Q a w := by
  subst hl
  refine round_region_any hn hq hm ?_
  have := wpAny_snoc (P := P) (Q := Q) hB l.toArray.size (Array.replicate l.toArray.size false) a w.drew (by simp) (fun j oj _ hl => (by rw [getD_replicate_false] at hl; cases hl)) h
  have e : (Array.replicate l.toArray.size false).push false = Array.replicate (l ++ [o]).toArray.size false := by simp [Array.replicate_succ]
  rw [e] at this
  have e2 : l.toArray.size + 1 = (l ++ [o]).toArray.size := by simp
  rw [e2] at this
  exact this
theorem last_split {l0 : List Oper} {o : Oper} (h : l0.getLast? = some o) : l0 = l0.dropLast ++ [o] := by
  have hne : l0 ≠ [] := fun h0 => by subst h0; cases h
  rw [List.getLast?_eq_some_getLast hne] at h
  have := List.dropLast_concat_getLast hne
  rw [Option.some.inj h] at this
  exact this.symm
theorem region_last {l0 : List Oper} {o : Oper} (ho : l0.getLast? = some o) {id : Nat} {a : Act} {w : World} (hm : P.follows .mixedOrders = true) (hB : snocB l0.dropLast o = true)
    (h : wpAny P .any l0.dropLast.toArray (Exit.then (fun a w => wpList P l0.toArray Q [o] a w) Q) l0.dropLast.toArray.size (Array.replicate l0.dropLast.toArray.size false) a w.drew) : (Code.region id l0.toArray true).wp P Q a w := region_snoc (last_split ho) hm hB h
theorem round_region_last {l0 : List Oper} {o : Oper} (ho : l0.getLast? = some o) {l1 m id : Nat} {a : Act} {w : World} (hn : noDefers l0.toArray = true) (hq : ¬ LetsOut Q) (hm : P.follows .mixedOrders = true) (hB : snocB l0.dropLast o = true)
    (h : wpAny P .any l0.dropLast.toArray (Exit.then (fun a w => wpList P l0.toArray Q [o] a w) Q) l0.dropLast.toArray.size (Array.replicate l0.dropLast.toArray.size false) a w.drew) : (Code.region id l0.toArray true).wpIn (Fence.wide.inRound l1) m P Q a w := round_region_snoc (last_split ho) hn hq hm hB h
end
end Go.Proofs.YtfpaihjcbpaneaaGreatDoor
namespace Go.Proofs.YtfpaihjcbpaneaaGreatDoor
open Go.RowKit
set_option linter.unusedVariables false
set_option linter.unusedSimpArgs false
/-- Orders: one operation is ready, or two of them are. -/
inductive OT where
  | leaf
  | one (i : Nat) (t : OT)
  | two (i : Nat) (t : OT) (j : Nat) (u : OT)
def OT.len : OT → Nat
  | .leaf => 0
  | .one _ t => t.len + 1
  | .two _ t _ _ => t.len + 1
def OT.chk (md : Region.Mode) (ops : Array Oper) : OT → Array Bool → Bool
  | .leaf, listed => (Region.ready md ops listed).isEmpty
  | .one i t, listed => decide (Region.ready md ops listed = [i]) && decide (i < ops.size) && t.chk md ops (listed.setIfInBounds i true)
  | .two i t j u, listed => decide (Region.ready md ops listed = [i, j]) && decide (i < ops.size) && decide (j < ops.size) && decide (t.len = u.len) && t.chk md ops (listed.setIfInBounds i true) && u.chk md ops (listed.setIfInBounds j true)
section
variable {P : Program} {md : Region.Mode} {Q : Exit → Act → World → Prop} {S : World → Prop}
def wpT (P : Program) (l : List Oper) (Q : Exit → Act → World → Prop) (S : World → Prop) : OT → Act → World → Prop
  | .leaf, a, w => Q .normal a w
  | .one i t, a, w => wpList P l.toArray (Exit.then (fun a' w' => S w' ∧ wpT P l Q S t a' w') Q) (picks l [i]) a w
  | .two i t j u, a, w => wpList P l.toArray (Exit.then (fun a' w' => S w' ∧ wpT P l Q S t a' w') Q) (picks l [i]) a w ∧ wpList P l.toArray (Exit.then (fun a' w' => S w' ∧ wpT P l Q S u a' w') Q) (picks l [j]) a w
theorem picks_one {l : List Oper} {i : Nat} (hi : i < l.length) : picks l [i] = [l[i]] := by rw [picks, List.drop_eq_getElem_cons hi]; rfl
theorem wpAnyH_tree {l : List Oper} : ∀ (t : OT) (listed : Array Bool) (a : Act) (w : World), t.chk md l.toArray listed = true → wpT P l Q S t a w → wpAnyH P md l.toArray Q S t.len listed a w
  | .leaf, listed, a, w, hB, h => ⟨by simpa [OT.chk] using hB, h⟩
  | .one i t, listed, a, w, hB, h => by
    simp only [OT.chk, Bool.and_eq_true, decide_eq_true_eq] at hB
    obtain ⟨⟨hr, hi⟩, hB⟩ := hB
    have hi' : i < l.length := by simpa using hi
    have h : wpList P l.toArray (Exit.then (fun a' w' => S w' ∧ wpT P l Q S t a' w') Q) (picks l [i]) a w := h
    rw [picks_one hi'] at h
    refine ⟨fun h1 => (by rw [hr] at h1; cases h1), fun k hk => ?_⟩
    rw [hr] at hk
    have hik : k = i := by simpa using hk
    subst hik
    exact wpOp_mono (fun a' w' h' => ⟨h'.1, wpAnyH_tree t _ a' w' hB h'.2⟩) (wpOp_then (show l.toArray[k]? = some l[k] by simp) h)
  | .two i t j u, listed, a, w, hB, h => by
    simp only [OT.chk, Bool.and_eq_true, decide_eq_true_eq] at hB
    obtain ⟨⟨⟨⟨⟨hr, hi⟩, hj⟩, hl⟩, hB1⟩, hB2⟩ := hB
    have hi' : i < l.length := by simpa using hi
    have hj' : j < l.length := by simpa using hj
    have h : wpList P l.toArray (Exit.then (fun a' w' => S w' ∧ wpT P l Q S t a' w') Q) (picks l [i]) a w ∧ wpList P l.toArray (Exit.then (fun a' w' => S w' ∧ wpT P l Q S u a' w') Q) (picks l [j]) a w := h
    obtain ⟨h1, h2⟩ := h
    rw [picks_one hi'] at h1
    rw [picks_one hj'] at h2
    refine ⟨fun h1 => (by rw [hr] at h1; cases h1), fun k hk => ?_⟩
    rw [hr] at hk
    rcases List.mem_cons.1 hk with rfl | hk
    · exact wpOp_mono (fun a' w' h' => ⟨h'.1, wpAnyH_tree t _ a' w' hB1 h'.2⟩) (wpOp_then (show l.toArray[k]? = some l[k] by simp) h1)
    · have hkj : k = j := by simpa using hk
      subst hkj
      exact wpOp_mono (fun a' w' h' => ⟨h'.1, (show wpAnyH P md l.toArray Q S t.len _ a' w' by rw [hl]; exact wpAnyH_tree u _ a' w' hB2 h'.2)⟩) (wpOp_then (show l.toArray[k]? = some l[k] by simp) h2)
def planTB (ops : Array Oper) (fs : List Nat) (t : OT) : Bool :=
  Region.noSelect ops && decide (fs.length + t.len = ops.size) && fs.all (fun i => decide (i < ops.size)) && takes3B .any ops (fun _ => false) fs (Array.replicate ops.size false) && t.chk .any ops (markAll fs (Array.replicate ops.size false))
theorem wpAny_tree (S : World → Prop) (fs : List Nat) (t : OT) {l : List Oper} {a : Act} {w : World} (hext : ∀ W, Ext2 w W → S W) (hB : planTB l.toArray fs t = true)
    (hQ : ∀ c a (d : Option Tmp) v w, Q (.panic c) (a.put d v) w → Q (.panic c) a w)
    (h : wpQS P l.toArray S (fun a1 => ∀ W, Ext2 w W → wpT P l Q S t a1 W) (picks l fs) a) :
    wpAny P .any l.toArray Q l.toArray.size (Array.replicate l.toArray.size false) a w.drew := by
  simp only [planTB, Bool.and_eq_true, decide_eq_true_eq] at hB
  obtain ⟨⟨⟨⟨hns, hlen⟩, hlt⟩, htk⟩, hch⟩ := hB
  have hlt' : ∀ i ∈ fs, i < l.length := fun i hi => by
    have := List.all_eq_true.1 hlt i hi
    simpa using this
  refine wpAny_of_held (S := S) _ _ _ _ ?_
  rw [← hlen]
  have mono0 : ∀ (qs : List Oper) (a : Act) {K K' : Act → Prop}, (∀ a, K a → K' a) → wpQS P l.toArray S K qs a → wpQS P l.toArray S K' qs a := by
    intro qs
    induction qs with
    | nil => intro a K K' hk h; exact hk _ h
    | cons o qs ih =>
      intro a K K' hk h
      simp only [wpQS] at h ⊢
      split
      · rename_i hw; rw [if_pos hw] at h; obtain ⟨v, h1, h2⟩ := h; exact ⟨v, h1, ih _ hk h2⟩
      · rename_i hw; rw [if_neg hw] at h; exact ih _ hk h
  rw [hlen]
  have key := wpAnyH_neutral (P := P) (md := .any) (ops := l.toArray) (Q := Q) (S := S) (tl := fun _ => false) (f := t.len) hns hQ (hext _ (Ext2.drew w)) fs (picks l fs) (Array.replicate l.toArray.size false) a (picks_map hlt') (HInv.start _) htk
    (mono0 _ _ (fun a1 h1 _ => wpAnyH_tree t _ a1 w.drew hch (h1 _ (Ext2.drew w))) h)
  rwa [hlen] at key
theorem region_tree (S : World → Prop) (fs : List Nat) (t : OT) {id : Nat} {l : List Oper} {a : Act} {w : World} (hext : ∀ W, Ext2 w W → S W) (hm : P.follows .mixedOrders = true) (hB : planTB l.toArray fs t = true)
    (hQ : ∀ c a (d : Option Tmp) v w, Q (.panic c) (a.put d v) w → Q (.panic c) a w)
    (h : wpQS P l.toArray S (fun a1 => ∀ W, Ext2 w W → wpT P l Q S t a1 W) (picks l fs) a) :
    (Code.region id l.toArray true).wp P Q a w := wp_region_any hm (wpAny_tree S fs t hext hB hQ h)
theorem round_region_tree (S : World → Prop) {l0 m : Nat} (fs : List Nat) (t : OT) {id : Nat} {l : List Oper} {a : Act} {w : World} (hext : ∀ W, Ext2 w W → S W) (hn : noDefers l.toArray = true) (hq : ¬ LetsOut Q) (hm : P.follows .mixedOrders = true) (hB : planTB l.toArray fs t = true)
    (hQ : ∀ c a (d : Option Tmp) v w, Q (.panic c) (a.put d v) w → Q (.panic c) a w)
    (h : wpQS P l.toArray S (fun a1 => ∀ W, Ext2 w W → wpT P l Q S t a1 W) (picks l fs) a) :
    (Code.region id l.toArray true).wpIn (Fence.wide.inRound l0) m P Q a w := round_region_any hn hq hm (wpAny_tree S fs t hext hB hQ h)
theorem wpT_one {l : List Oper} {i : Nat} {t : OT} {a : Act} {w : World} (h : wpList P l.toArray (Exit.then (fun a' w' => S w' ∧ wpT P l Q S t a' w') Q) (picks l [i]) a w) : wpT P l Q S (.one i t) a w := h
theorem wpT_two {l : List Oper} {i j : Nat} {t u : OT} {a : Act} {w : World} (h : wpList P l.toArray (Exit.then (fun a' w' => S w' ∧ wpT P l Q S t a' w') Q) (picks l [i]) a w) (g : wpList P l.toArray (Exit.then (fun a' w' => S w' ∧ wpT P l Q S u a' w') Q) (picks l [j]) a w) : wpT P l Q S (.two i t j u) a w := ⟨h, g⟩
theorem then_name {N : Act → World → Prop} {Q : Exit → Act → World → Prop} {e : Exit} {a : Act} {w : World} (h : ∀ w0, w0 = w → Exit.then N Q e a w0) : Exit.then N Q e a w := h w rfl
theorem and_name {A : World → Prop} {l : List Oper} {t : OT} {a : Act} {w : World} (h : ∀ w0, w0 = w → A w0 ∧ wpT P l Q S t a w0) : A w ∧ wpT P l Q S t a w := h w rfl
theorem wpT_leaf {l : List Oper} {a : Act} {w : World} (h : Q .normal a w) : wpT P l Q S .leaf a w := h
end
/-- A class of worlds with two blocks. -/
def At2 (b : Nat) (c : Array Value) (t : TypeId) (b' : Nat) (c' : Array Value) (t' : TypeId) (W : World) : Prop := W.heap[b]? = some (.cells c t (0, 0)) ∧ W.heap[b']? = some (.cells c' t' (0, 0))
theorem at2_cell {b b' : Nat} {c c' : Array Value} {t t' : TypeId} (x : Cls (At2 b c t b' c' t')) (o : Nat) : x.1.cell? ⟨b, o, none⟩ = c[o]? := by
  have h := x.2.1
  simp [World.cell?, h]
theorem at2_cell' {b b' : Nat} {c c' : Array Value} {t t' : TypeId} (x : Cls (At2 b c t b' c' t')) (o : Nat) : x.1.cell? ⟨b', o, none⟩ = c'[o]? := by
  have h := x.2.2
  simp [World.cell?, h]
theorem At2.ext {b b' : Nat} {c c' : Array Value} {t t' : TypeId} {w : World} (h : w.heap[b]? = some (.cells c t (0, 0))) (h' : w.heap[b']? = some (.cells c' t' (0, 0))) : ∀ W, Ext2 w W → At2 b c t b' c' t' W := fun W hW => ⟨(Below.block hW b (Array.getElem?_eq_some_iff.1 h).1).trans h, (Below.block hW b' (Array.getElem?_eq_some_iff.1 h').1).trans h'⟩
end Go.Proofs.YtfpaihjcbpaneaaGreatDoor
namespace Go.Proofs.YtfpaihjcbpaneaaGreatDoor
open Go.RowKit
set_option linter.unusedVariables false
set_option linter.unusedSimpArgs false
/-- Orders: some operations without an effect are ready, and go first; or one operation is ready, or two of them are. -/
inductive OU where
  | leaf
  | flt (fs : List Nat) (t : OU)
  | one (i : Nat) (t : OU)
  | two (i : Nat) (t : OU) (j : Nat) (u : OU)
def OU.len : OU → Nat
  | .leaf => 0
  | .flt fs t => fs.length + t.len
  | .one _ t => t.len + 1
  | .two _ t _ _ => t.len + 1
def OU.chk (md : Region.Mode) (ops : Array Oper) : OU → Array Bool → Bool
  | .leaf, listed => (Region.ready md ops listed).isEmpty
  | .flt fs t, listed => hinvB md ops (fun _ => false) listed && fs.all (fun i => decide (i < ops.size)) && takes3B md ops (fun _ => false) fs listed && t.chk md ops (markAll fs listed)
  | .one i t, listed => decide (Region.ready md ops listed = [i]) && decide (i < ops.size) && t.chk md ops (listed.setIfInBounds i true)
  | .two i t j u, listed => decide (Region.ready md ops listed = [i, j]) && decide (i < ops.size) && decide (j < ops.size) && decide (t.len = u.len) && t.chk md ops (listed.setIfInBounds i true) && u.chk md ops (listed.setIfInBounds j true)
section
variable {P : Program} {md : Region.Mode} {Q : Exit → Act → World → Prop} {S : World → Prop}
def wpU (P : Program) (l : List Oper) (Q : Exit → Act → World → Prop) (S : World → Prop) : OU → Act → World → Prop
  | .leaf, a, w => Q .normal a w
  | .flt fs t, a, w => wpQS P l.toArray S (fun a' => wpU P l Q S t a' w) (picks l fs) a
  | .one i t, a, w => wpList P l.toArray (Exit.then (fun a' w' => S w' ∧ wpU P l Q S t a' w') Q) (picks l [i]) a w
  | .two i t j u, a, w => wpList P l.toArray (Exit.then (fun a' w' => S w' ∧ wpU P l Q S t a' w') Q) (picks l [i]) a w ∧ wpList P l.toArray (Exit.then (fun a' w' => S w' ∧ wpU P l Q S u a' w') Q) (picks l [j]) a w
theorem wpQS_mono {ops : Array Oper} : ∀ (qs : List Oper) (a : Act) {K K' : Act → Prop}, (∀ a, K a → K' a) → wpQS P ops S K qs a → wpQS P ops S K' qs a
  | [], _, _, _, hk, h => hk _ h
  | o :: qs, a, K, K', hk, h => by
    simp only [wpQS] at h ⊢
    split
    · rename_i hw; rw [if_pos hw] at h; obtain ⟨v, h1, h2⟩ := h; exact ⟨v, h1, wpQS_mono qs _ hk h2⟩
    · rename_i hw; rw [if_neg hw] at h; exact wpQS_mono qs _ hk h
theorem wpAnyH_treeU {l : List Oper} (hns : Region.noSelect l.toArray = true) (hQ : ∀ c a (d : Option Tmp) v w, Q (.panic c) (a.put d v) w → Q (.panic c) a w) : ∀ (t : OU) (listed : Array Bool) (a : Act) (w : World), S w → t.chk md l.toArray listed = true → wpU P l Q S t a w → wpAnyH P md l.toArray Q S t.len listed a w
  | .leaf, listed, a, w, hS, hB, h => ⟨by simpa [OU.chk] using hB, h⟩
  | .flt fs t, listed, a, w, hS, hB, h => by
    simp only [OU.chk, Bool.and_eq_true] at hB
    obtain ⟨⟨⟨hi, hlt⟩, htk⟩, hB⟩ := hB
    have hlt' : ∀ i ∈ fs, i < l.length := fun i hi => by
      have := List.all_eq_true.1 hlt i hi
      simpa using this
    exact wpAnyH_neutral (tl := fun _ => false) hns hQ hS fs (picks l fs) listed a (picks_map hlt') (hinv_of hi) htk (wpQS_mono _ _ (fun a1 h1 _ => wpAnyH_treeU hns hQ t _ a1 w hS hB h1) h)
  | .one i t, listed, a, w, hS, hB, h => by
    simp only [OU.chk, Bool.and_eq_true, decide_eq_true_eq] at hB
    obtain ⟨⟨hr, hi⟩, hB⟩ := hB
    have hi' : i < l.length := by simpa using hi
    have h : wpList P l.toArray (Exit.then (fun a' w' => S w' ∧ wpU P l Q S t a' w') Q) (picks l [i]) a w := h
    rw [picks_one hi'] at h
    refine ⟨fun h1 => (by rw [hr] at h1; cases h1), fun k hk => ?_⟩
    rw [hr] at hk
    have hik : k = i := by simpa using hk
    subst hik
    exact wpOp_mono (fun a' w' h' => ⟨h'.1, wpAnyH_treeU hns hQ t _ a' w' h'.1 hB h'.2⟩) (wpOp_then (show l.toArray[k]? = some l[k] by simp) h)
  | .two i t j u, listed, a, w, hS, hB, h => by
    simp only [OU.chk, Bool.and_eq_true, decide_eq_true_eq] at hB
    obtain ⟨⟨⟨⟨⟨hr, hi⟩, hj⟩, hl⟩, hB1⟩, hB2⟩ := hB
    have hi' : i < l.length := by simpa using hi
    have hj' : j < l.length := by simpa using hj
    have h : wpList P l.toArray (Exit.then (fun a' w' => S w' ∧ wpU P l Q S t a' w') Q) (picks l [i]) a w ∧ wpList P l.toArray (Exit.then (fun a' w' => S w' ∧ wpU P l Q S u a' w') Q) (picks l [j]) a w := h
    obtain ⟨h1, h2⟩ := h
    rw [picks_one hi'] at h1
    rw [picks_one hj'] at h2
    refine ⟨fun h1 => (by rw [hr] at h1; cases h1), fun k hk => ?_⟩
    rw [hr] at hk
    rcases List.mem_cons.1 hk with rfl | hk
    · exact wpOp_mono (fun a' w' h' => ⟨h'.1, wpAnyH_treeU hns hQ t _ a' w' h'.1 hB1 h'.2⟩) (wpOp_then (show l.toArray[k]? = some l[k] by simp) h1)
    · have hkj : k = j := by simpa using hk
      subst hkj
      exact wpOp_mono (fun a' w' h' => ⟨h'.1, (show wpAnyH P md l.toArray Q S t.len _ a' w' by rw [hl]; exact wpAnyH_treeU hns hQ u _ a' w' h'.1 hB2 h'.2)⟩) (wpOp_then (show l.toArray[k]? = some l[k] by simp) h2)
def planU (ops : Array Oper) (t : OU) : Bool :=
  Region.noSelect ops && decide (t.len = ops.size) && t.chk .any ops (Array.replicate ops.size false)
theorem wpAny_treeU (S : World → Prop) (t : OU) {l : List Oper} {a : Act} {w : World} (hext : ∀ W, Ext2 w W → S W) (hB : planU l.toArray t = true)
    (hQ : ∀ c a (d : Option Tmp) v w, Q (.panic c) (a.put d v) w → Q (.panic c) a w)
    (h : ∀ W, Ext2 w W → wpU P l Q S t a W) :
    wpAny P .any l.toArray Q l.toArray.size (Array.replicate l.toArray.size false) a w.drew := by
  simp only [planU, Bool.and_eq_true, decide_eq_true_eq] at hB
  obtain ⟨⟨hns, hlen⟩, hch⟩ := hB
  refine wpAny_of_held (S := S) _ _ _ _ ?_
  rw [← hlen]
  have := wpAnyH_treeU (P := P) (md := .any) (Q := Q) (S := S) hns hQ t (Array.replicate l.toArray.size false) a w.drew (hext _ (Ext2.drew w)) hch (h _ (Ext2.drew w))
  rwa [hlen] at this ⊢
theorem region_treeU (S : World → Prop) (t : OU) {id : Nat} {l : List Oper} {a : Act} {w : World} (hext : ∀ W, Ext2 w W → S W) (hm : P.follows .mixedOrders = true) (hB : planU l.toArray t = true)
    (hQ : ∀ c a (d : Option Tmp) v w, Q (.panic c) (a.put d v) w → Q (.panic c) a w)
    (h : ∀ W, Ext2 w W → wpU P l Q S t a W) :
    (Code.region id l.toArray true).wp P Q a w := wp_region_any hm (wpAny_treeU S t hext hB hQ h)
theorem wpU_flt {l : List Oper} {fs : List Nat} {t : OU} {a : Act} {w : World} (h : wpQS P l.toArray S (fun a' => wpU P l Q S t a' w) (picks l fs) a) : wpU P l Q S (.flt fs t) a w := h
theorem wpU_one {l : List Oper} {i : Nat} {t : OU} {a : Act} {w : World} (h : wpList P l.toArray (Exit.then (fun a' w' => S w' ∧ wpU P l Q S t a' w') Q) (picks l [i]) a w) : wpU P l Q S (.one i t) a w := h
theorem wpU_two {l : List Oper} {i j : Nat} {t u : OU} {a : Act} {w : World} (h : wpList P l.toArray (Exit.then (fun a' w' => S w' ∧ wpU P l Q S t a' w') Q) (picks l [i]) a w) (g : wpList P l.toArray (Exit.then (fun a' w' => S w' ∧ wpU P l Q S u a' w') Q) (picks l [j]) a w) : wpU P l Q S (.two i t j u) a w := ⟨h, g⟩
theorem andU_name {A : World → Prop} {l : List Oper} {t : OU} {a : Act} {w : World} (h : ∀ w0, w0 = w → A w0 ∧ wpU P l Q S t a w0) : A w ∧ wpU P l Q S t a w := h w rfl
theorem wpU_leaf {l : List Oper} {a : Act} {w : World} (h : Q .normal a w) : wpU P l Q S .leaf a w := h
end
end Go.Proofs.YtfpaihjcbpaneaaGreatDoor
