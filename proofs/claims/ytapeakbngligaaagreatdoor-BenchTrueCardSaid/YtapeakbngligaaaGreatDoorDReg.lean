/-
  A region in a round of a range over a function goes as everywhere: regions that draw their order, by the laws of the plain walk.
  A region that draws its order: operations that leave one value in every world of a class (reads, arithmetic, calls that make memory at most) are taken first, in the order of the text; what is left is walked in the worlds that may then stand.
  A region that draws its order, by a plan: operations whose value hangs on no world (floats) are taken first; then, in the order that the plan names, those that leave one value in every grown world (reads, calls that make memory at most); then allocations, in whatever order; then the tail, in its one order.
  A region by a plan, where blocks that the region lays may be filled while other operations are still to come.
  A region by a plan, where some reads may still come behind a tail that turns memory: what they read holds through the whole region.
  A region that draws its order, by stages: each stage takes operations that leave one value in every grown world, then some that come up alone, one behind the other.
  Regions in which two operations may come in either order (a call that makes memory, and a read), then stages.
  Regions that draw, in the body of an iterator: the reads and calls in any order, then the tail (that holds a yield) in the fence.
  Regions that draw, whose last operation waits for all others: the others as a region of their own, the last one behind them.
  Regions that draw: reads that hold in a class of worlds float; the rest goes by a tree of orders. Program independent.
  Regions that draw: a tree of orders in which operations without an effect may float anywhere. Program independent.
-/
import Derived.RangeFuncNested
import Derived.OrdersIn
import Derived.RangeFuncBound
import Derived.RangeFuncCalls
import Derived.RangeFuncLeaves
import Derived.Deep.RegionHeld3
import Derived.Deep.QuietTactic
import Derived.BigQuiet
import Derived.StillTail
import Derived.Below
import Derived.OrdersHeld
import Derived.TacticsIn
namespace Go.Proofs.YtapeakbngligaaaGreatDoor
variable {P : Program} {ops : Array Oper} {Q : Exit → Act → World → Prop} {l0 n : Nat}
theorem wp_to_in {o : Oper} {a : Act} {w : World} {K : Act → World → Prop} (hd : ∀ c, o.op ≠ .defer c) (h : o.wp P a w K Q) : o.wpIn (Fence.wide.inRound l0) n P a w K Q := by
  refine ⟨fun _ _ => trivial, ?_⟩
  rw [Oper.semAt_eq _ _ _ hd]
  unfold Oper.wp at h
  generalize (execOp a.eval o).run P w = r at *
  cases r with
  | ok x w' =>
    cases x with
    | enter f args => exact ⟨fun h0 => (by cases h0), CallsIn.inRound l0 (callsIn_wide.2 h)⟩
    | row r args => exact ⟨fun h0 => (by cases h0), fun c cs _ => by obtain ⟨v, w', r, s⟩ := h c cs; exact ⟨v, w', r, stepsIn_wide.2 s⟩⟩
    | _ => first | exact h | exact h.elim
  | halt x w' => cases x <;> first | exact h | exact h.elim
def noDefers (ops : Array Oper) : Bool := ops.all fun o => match o.op with | .defer _ => false | _ => true
theorem noDefers_at (h : noDefers ops = true) {i : Nat} {o : Oper} (ho : ops[i]? = some o) : ∀ c, o.op ≠ .defer c := by
  intro c hc
  obtain ⟨hi, rfl⟩ := Array.getElem?_eq_some_iff.1 ho
  have := Array.all_eq_true.1 h i hi
  rw [hc] at this; cases this
theorem wpOp_to_in (hn : noDefers ops = true) (hq : ¬ LetsOut Q) {i : Nat} {a : Act} {w : World} {K K' : Act → World → Prop} (hK : ∀ a w, K a w → K' a w) (h : wpOp P ops Q i K a w) : wpOpIn (Fence.wide.inRound l0) n P ops Q i K' a w := by
  unfold wpOp at h; unfold wpOpIn
  cases ho : ops[i]? with
  | none => rw [ho] at h; exact hK _ _ h
  | some o =>
    rw [ho] at h
    simp only at h ⊢
    by_cases hw : Region.wanted o (yielded ops a.tmps) = true
    · rw [if_pos hw] at h ⊢
      rcases h with h | h
      · exact wp_to_in (noDefers_at hn ho) (Oper.wp_mono hK h)
      · exact (hq h.2).elim
    · rw [if_neg hw] at h ⊢
      exact ⟨fun _ _ => trivial, hK _ _ h⟩
theorem wpAny_to_in (hn : noDefers ops = true) (hq : ¬ LetsOut Q) {md : Region.Mode} : ∀ (f : Nat) (listed : Array Bool) (a : Act) (w : World), wpAny P md ops Q f listed a w → wpAnyIn (Fence.wide.inRound l0) n P md ops Q f listed a w
  | 0, _, _, _, h => h
  | f + 1, _, _, _, h => ⟨h.1, fun i hi => wpOp_to_in hn hq (fun a' w' h' => wpAny_to_in hn hq f _ a' w' h') (h.2 i hi)⟩
theorem round_region_any {id : Nat} {a : Act} {w : World} (hn : noDefers ops = true) (hq : ¬ LetsOut Q) (hm : P.follows .mixedOrders = true)
    (h : wpAny P .any ops Q ops.size (Array.replicate ops.size false) a { w with drawn := w.drawn + 1 }) : (Code.region id ops true).wpIn (Fence.wide.inRound l0) n P Q a w :=
  wpIn_region_any hm (wpAny_to_in hn hq _ _ _ _ h)
end Go.Proofs.YtapeakbngligaaaGreatDoor
namespace Go.Proofs.YtapeakbngligaaaGreatDoor
open Go.RowKit
set_option linter.unusedVariables false
section
variable {P : Program} {md : Region.Mode} {ops : Array Oper} {Q : Exit → Act → World → Prop} {C : World → Prop}
def upon2 (P : Program) (w : World) (v : Value) : Result Next → Prop
  | .ok (.value u) w' => w' = w ∧ u = v
  | .ok .skip w' => w' = w ∧ v = undef
  | .ok (.enter f args) w' => w' = w ∧ Calls P f args w (fun e w'' => e = .returned v ∧ Below w.heap.size w w'')
  | _ => False
structure Cls (C : World → Prop) where
  val : World
  prop : C val
def Yields2 (P : Program) (ops : Array Oper) (C : World → Prop) (o : Oper) (v : Value) (a : Act) : Prop :=
  (Region.wanted o (yielded ops a.tmps) = true ∧ ∀ x : Cls C, upon2 P x.1 v ((execOp a.eval o).run P x.1)) ∨ (Region.wanted o (yielded ops a.tmps) = false ∧ v = undef)
theorem Yields2.of_same {o : Oper} {v : Value} {a a' : Act} (hy : Yields2 P ops C o v a) (he : execOp a'.eval o = execOp a.eval o)
    (hw : Region.wanted o (yielded ops a'.tmps) = Region.wanted o (yielded ops a.tmps)) : Yields2 P ops C o v a' := by
  unfold Yields2 at *
  rw [he, hw]
  exact hy
def CR (C : World → Prop) : Prop := ∀ W W', C W → Below W.heap.size W W' → C W'
theorem Yields2.wpOp (hCR : CR C) {i : Nat} {o : Oper} {v : Value} {a : Act} {w : World} {K : Act → World → Prop} (hi : ops[i]? = some o) (hy : Yields2 P ops C o v a) (hC : C w)
    (h : ∀ W', Below w.heap.size w W' → C W' → K (a.put o.dst v) W') : wpOp P ops Q i K a w := by
  unfold Go.wpOp
  simp only [hi]
  rcases hy with ⟨hw, hv⟩ | ⟨hw, rfl⟩
  · rw [if_pos hw]
    refine .inl ?_
    have h1 := hv ⟨w, hC⟩
    unfold Oper.wp
    simp only at h1
    generalize (execOp a.eval o).run P w = r at *
    cases r with
    | halt x w' => exact h1.elim
    | ok x w' =>
      cases x <;> first
        | (obtain ⟨rfl, rfl⟩ := h1; exact h _ (Below.refl _ _) hC)
        | exact h1.elim
        | skip
      obtain ⟨rfl, h2⟩ := h1
      refine h2.mono ?_
      rintro e w'' ⟨rfl, hb⟩
      exact h _ hb (hCR _ _ hC hb)
  · rw [if_neg (by simp [hw])]
    exact h _ (Below.refl _ _) hC
theorem wpOp_put2 {j : Nat} {oi oj : Oper} {v : Value} (hj : ops[j]? = some oj) (hap : oi.apart ops oj = true)
    (hsi : ∀ cs b, oi.op ≠ .select cs b) (hsj : ∀ cs b, oj.op ≠ .select cs b)
    (hQ : ∀ c a w, Q (.panic c) (a.put oi.dst v) w → Q (.panic c) a w) {K : Act → World → Prop} {a : Act} {w : World}
    (hy : Yields2 P ops C oi v a) (h : wpOp P ops Q j K (a.put oi.dst v) w) :
    wpOp P ops Q j (fun a' w' => Yields2 P ops C oi v a' ∧ K (a'.put oi.dst v) w') a w := by
  obtain ⟨h1, h2, h3⟩ := Oper.apart_spec hap
  have keep : ∀ (a : Act), Yields2 P ops C oi v a → ∀ u, Yields2 P ops C oi v (a.put oj.dst u) := fun a hy u =>
    hy.of_same (execOp_put oi hsi a oj.dst u h3) (wanted_put oi a oj.dst u h3)
  have keepD : ∀ d, Yields2 P ops C oi v { a with defers := d :: a.defers } := fun d => hy.of_same rfl rfl
  have hd : ∀ d : Deferred, ({ a.put oi.dst v with defers := d :: (a.put oi.dst v).defers } : Act) = ({ a with defers := d :: a.defers } : Act).put oi.dst v := fun d => by cases oi.dst <;> rfl
  unfold wpOp at *
  simp only [hj] at *
  rw [wanted_put oj a oi.dst v h1] at h
  by_cases hw : Region.wanted oj (yielded ops a.tmps) = true
  · rw [if_pos hw] at h ⊢
    rcases h with h | ⟨hasks, hlets⟩
    case inr => exact .inr ⟨by unfold Oper.asks at *; rw [execOp_put oj hsj a oi.dst v h1] at hasks; exact hasks, hlets⟩
    refine .inl ?_
    unfold Oper.wp at *
    rw [execOp_put oj hsj a oi.dst v h1] at h
    generalize (execOp a.eval oj).run P w = r at *
    cases r with
    | halt x w' => cases x <;> first | exact hQ _ _ _ h | exact h.elim
    | ok x w' =>
      cases x with
      | value u => exact ⟨keep _ hy u, by rw [← Act.put_comm a v u h2]; exact h⟩
      | skip => exact ⟨keep _ hy _, by rw [← Act.put_comm a v undef h2]; exact h⟩
      | defer d =>
        refine ⟨keep _ (keepD d) _, ?_⟩
        have h' : K (({ a.put oi.dst v with defers := d :: (a.put oi.dst v).defers } : Act).put oj.dst undef) w' := h
        rw [hd d, Act.put_comm _ v undef h2] at h'
        exact h'
      | enter f args =>
        refine Calls.mono h ?_
        intro e w'' he
        cases e with
        | returned u => exact ⟨keep _ hy u, by rw [← Act.put_comm a v u h2]; exact he⟩
        | panicked c => exact hQ _ _ _ he
        | outgrown => exact he
      | row r args =>
        refine Rows.mono h ?_
        intro u w'' he
        exact ⟨keep _ hy u, by rw [← Act.put_comm a v u h2]; exact he⟩
      | _ => exact h.elim
  · rw [if_neg hw] at h ⊢
    exact ⟨keep _ hy _, by rw [← Act.put_comm a v undef h2]; exact h⟩
/-- The head of the region (its first n operations), f of which are still to come: whatever new blocks come about between two of them. -/
def wpE (P : Program) (md : Region.Mode) (ops : Array Oper) (Q : Exit → Act → World → Prop) (C : World → Prop) (n : Nat) (L : Array Bool → Act → World → Prop) : Nat → Array Bool → Act → World → Prop
  | 0, listed, a, W => ∀ W', Below W.heap.size W W' → C W' → L listed a W'
  | f + 1, listed, a, W => ∀ W', Below W.heap.size W W' → C W' → Region.ready md ops listed ≠ [] ∧ ∀ i ∈ Region.ready md ops listed, i < n ∧
      wpOp P ops Q i (fun a2 W2 => C W2 ∧ wpE P md ops Q C n L f (listed.setIfInBounds i true) a2 W2) a W'
variable {n : Nat} {L : Array Bool → Act → World → Prop}
theorem wpE.later {f : Nat} {listed : Array Bool} {a : Act} {W W1 : World} (h : wpE P md ops Q C n L f listed a W) (hb : Below W.heap.size W W1) : wpE P md ops Q C n L f listed a W1 := by
  cases f with
  | zero => exact fun W' hb' hC => h W' (hb.trans (hb'.mono hb.size)) hC
  | succ f => exact fun W' hb' hC => h W' (hb.trans (hb'.mono hb.size)) hC
theorem wpAny_of_wpE {g : Nat} (hL : ∀ listed a W, L listed a W → wpAny P md ops Q g listed a W) : ∀ (f : Nat) (listed : Array Bool) (a : Act) (W : World), C W → wpE P md ops Q C n L f listed a W → wpAny P md ops Q (f + g) listed a W
  | 0, listed, a, W, hC, h => by rw [Nat.zero_add]; exact hL _ _ _ (h W (Below.refl _ _) hC)
  | f + 1, listed, a, W, hC, h => by
    rw [show f + 1 + g = (f + g) + 1 by omega]
    obtain ⟨h1, h2⟩ := h W (Below.refl _ _) hC
    exact ⟨fun h0 => absurd h0 h1, fun i hi => wpOp_mono (fun a' w' h' => wpAny_of_wpE hL f _ a' w' h'.1 h'.2) (h2 i hi).2⟩
/-- While one of the first n is to come, none behind them may come up. -/
def Waits (md : Region.Mode) (ops : Array Oper) (n : Nat) : Prop := ∀ listed, HeadInv md ops n listed → ∀ i, i < n → listed.getD i true = false → ∀ j ∈ Region.ready md ops listed, j < n
theorem waits_tail (hs : Region.sinkB md ops n = true) (hc : Region.chainB md ops n = true) (hn : n < ops.size) : Waits md ops n := fun _ inv i hi hun j hj => by
  rcases Nat.lt_or_ge j n with h | h
  · exact h
  · exact absurd hj (tail_waits hs hc hn inv _ i rfl hi hun j h)
theorem waits_all (hn : n = ops.size) : Waits md ops n := fun _ _ _ _ _ j hj => by
  obtain ⟨_, o, ho, _⟩ := mem_ready.1 hj
  rw [hn]; exact (Array.getElem?_eq_some_iff.1 ho).1
theorem wpE_first (hCR : CR C) {i : Nat} {oi : Oper} {v : Value} (hi : ops[i]? = some oi) (hsel : ∀ (j : Nat) (o : Oper) cs b, ops[j]? = some o → o.op ≠ .select cs b) (hwt : Waits md ops n) (hin : i < n)
    (hQ : ∀ c a w, Q (.panic c) (a.put oi.dst v) w → Q (.panic c) a w)
    (hdone : ∀ listed a W, L listed a W → ∀ j ∈ Region.ready md ops listed, n ≤ j) :
    ∀ (f : Nat) (listed : Array Bool) (a : Act) (W : World), HeadInv md ops n listed →
      (∀ j oj, ops[j]? = some oj → j ≠ i → listed.getD j true = false → (∀ e ∈ oj.after, Region.binds md e = true → e.on ≠ i) → oi.apart ops oj = true) →
      i ∈ Region.ready md ops listed → Yields2 P ops C oi v a →
      wpE P md ops Q C n L f (listed.setIfInBounds i true) (a.put oi.dst v) W → wpE P md ops Q C n L (f + 1) listed a W := by
  intro f
  induction f with
  | zero =>
    intro listed a W inv _ hr hy H W' hb hC
    have hun := (mem_ready.1 hr).1
    refine ⟨fun h => (by rw [h] at hr; cases hr), fun j hj => ?_⟩
    refine ⟨hwt _ inv i hin hun j hj, ?_⟩
    by_cases hji : j = i
    · subst hji; exact hy.wpOp hCR hi hC fun W2 hb2 hC2 => ⟨hC2, wpE.later (wpE.later H hb) hb2⟩
    · have := hdone _ _ _ (H W' hb hC) j (ready_mono hj hji)
      have := hwt _ inv i hin hun j hj
      omega
  | succ f ih =>
    intro listed a W inv hfree hr hy H W' hb hC
    have hun := (mem_ready.1 hr).1
    refine ⟨fun h => (by rw [h] at hr; cases hr), fun j hj => ?_⟩
    have hjn := hwt _ inv i hin hun j hj
    refine ⟨hjn, ?_⟩
    by_cases hji : j = i
    · subst hji; exact hy.wpOp hCR hi hC fun W2 hb2 hC2 => ⟨hC2, wpE.later (wpE.later H hb) hb2⟩
    · have h1 := ((H W' hb hC).2 j (ready_mono hj hji)).2
      obtain ⟨hjun, oj, hoj, hall⟩ := mem_ready.1 hj
      have hnot : ∀ e ∈ oj.after, Region.binds md e = true → e.on ≠ i := fun e he hb heq => by
        have h1 := hall e he hb
        rw [heq, getD_both hun] at h1
        cases h1
      have h2 := wpOp_put2 hoj (hfree j oj hoj hji hjun hnot) (fun cs b => hsel i oi cs b hi) (fun cs b => hsel j oj cs b hoj) hQ hy h1
      have hfree' : ∀ k ok, ops[k]? = some ok → k ≠ i → (listed.setIfInBounds j true).getD k true = false →
          (∀ e ∈ ok.after, Region.binds md e = true → e.on ≠ i) → oi.apart ops ok = true := fun k ok hk hki hun hno => by
        refine hfree k ok hk hki ?_ hno
        by_cases hjk : j = k
        · subst hjk; exact hjun
        · rw [getD_set_ne true hjk] at hun; exact hun
      refine wpOp_mono (fun a' W2 h3 => ⟨h3.2.1, ih (listed.setIfInBounds j true) a' W2 (inv.set hj hjn) hfree' (ready_mono hr (Ne.symm hji)) h3.1 ?_⟩) h2
      rw [Array.setIfInBounds_comm _ _ hji]
      exact h3.2.2
/-- The order of the text: each operation leaves one value in every world of the class. -/
def wpQ2 (P : Program) (ops : Array Oper) (C : World → Prop) (K : Act → Prop) : List Oper → Act → Prop
  | [], a => K a
  | o :: rest, a => if Region.wanted o (yielded ops a.tmps) = true then ∃ v, (∀ x : Cls C, upon2 P x.1 v ((execOp a.eval o).run P x.1)) ∧ wpQ2 P ops C K rest (a.put o.dst v) else wpQ2 P ops C K rest (a.put o.dst undef)
theorem wpQ2_nil {K : Act → Prop} {a : Act} (h : K a) : wpQ2 P ops C K [] a := h
theorem wpQ2_step {K : Act → Prop} {a : Act} {o : Oper} {rest : List Oper}
    (h : ∀ K' : Act → Prop, (∀ a, wpQ2 P ops C K rest a → K' a) → if Region.wanted o (yielded ops a.tmps) = true then ∃ v, (∀ x : Cls C, upon2 P x.1 v ((execOp a.eval o).run P x.1)) ∧ K' (a.put o.dst v) else K' (a.put o.dst undef)) : wpQ2 P ops C K (o :: rest) a :=
  h _ (fun _ h => h)
theorem wpQ2_mono : ∀ (qs : List Oper) (a : Act) {K K' : Act → Prop}, (∀ a, K a → K' a) → wpQ2 P ops C K qs a → wpQ2 P ops C K' qs a
  | [], _, _, _, hk, h => hk _ h
  | o :: qs, a, K, K', hk, h => by
    simp only [wpQ2] at h ⊢
    split
    · rename_i hw; rw [if_pos hw] at h; obtain ⟨v, h1, h2⟩ := h; exact ⟨v, h1, wpQ2_mono qs _ hk h2⟩
    · rename_i hw; rw [if_neg hw] at h; exact wpQ2_mono qs _ hk h
def markAll : List Nat → Array Bool → Array Bool
  | [], l => l
  | i :: is, l => markAll is (l.setIfInBounds i true)
def takesB (md : Region.Mode) (ops : Array Oper) (n : Nat) : List Nat → Array Bool → Bool
  | [], _ => true
  | i :: is, listed => decide (i < n) && (Region.ready md ops listed).contains i && Region.free md ops listed i && takesB md ops n is (listed.setIfInBounds i true)
theorem wpE_takes (hCR : CR C) (hs : Region.noSelect ops = true) (hwt : Waits md ops n) (hQ : ∀ c a (d : Option Tmp) v w, Q (.panic c) (a.put d v) w → Q (.panic c) a w)
    (hdone : ∀ listed a W, L listed a W → ∀ j ∈ Region.ready md ops listed, n ≤ j) {f : Nat} {W : World} :
    ∀ (is : List Nat) (l : List Oper) (listed : Array Bool) (a : Act), is.map (fun i => ops[i]?) = l.map some → HeadInv md ops n listed → takesB md ops n is listed = true →
      wpQ2 P ops C (fun a' => HeadInv md ops n (markAll is listed) → wpE P md ops Q C n L f (markAll is listed) a' W) l a → wpE P md ops Q C n L (is.length + f) listed a W
  | [], [], listed, a, _, inv, _, h => by rw [List.length_nil, Nat.zero_add]; exact h inv
  | [], _ :: _, _, _, hm, _, _, _ => by cases hm
  | _ :: _, [], _, _, hm, _, _, _ => by cases hm
  | i :: is, o :: l, listed, a, hm, inv, hB, h => by
    simp only [List.map_cons, List.cons.injEq] at hm
    simp only [takesB, Bool.and_eq_true, decide_eq_true_eq] at hB
    obtain ⟨⟨⟨hin, hr⟩, hf⟩, hB'⟩ := hB
    have hr' : i ∈ Region.ready md ops listed := by simpa using hr
    have hy : ∃ v, Yields2 P ops C o v a ∧ wpQ2 P ops C (fun a' => HeadInv md ops n (markAll (i :: is) listed) → wpE P md ops Q C n L f (markAll (i :: is) listed) a' W) l (a.put o.dst v) := by
      simp only [wpQ2] at h
      by_cases hw : Region.wanted o (yielded ops a.tmps) = true
      · rw [if_pos hw] at h
        obtain ⟨v, h1, h2⟩ := h
        exact ⟨v, .inl ⟨hw, h1⟩, h2⟩
      · rw [if_neg hw] at h
        exact ⟨undef, .inr ⟨by simpa using hw, rfl⟩, h⟩
    obtain ⟨v, hy, hK⟩ := hy
    rw [List.length_cons, show is.length + 1 + f = (is.length + f) + 1 by omega]
    exact wpE_first hCR hm.1 (Region.noSelect_spec hs) hwt hin (fun c a w => hQ c a _ v w) hdone _ listed a W inv (Region.free_spec hm.1 hf) hr' hy
      (wpE_takes hCR hs hwt hQ hdone is l _ _ hm.2 (inv.set hr' hin) hB' hK)
theorem headInv0 (hn : n ≤ ops.size) : HeadInv md ops n (Array.replicate ops.size false) :=
  ⟨by simp, fun j oj _ hl => (by rw [getD_replicate_false] at hl; cases hl), fun t _ ht => getD_in (by simpa using ht) (getD_replicate_false _ _)⟩
/-- What stands behind the head: the tail, in its one order. -/
def Tail (P : Program) (ops : Array Oper) (Q : Exit → Act → World → Prop) (n : Nat) (tail : List Oper) (listed : Array Bool) (a : Act) (W : World) : Prop := Region.seqB .any ops (ops.size - n) n listed = true ∧ wpList P ops Q tail a W
theorem wpE_tail {tail : List Oper} {listed : Array Bool} {a : Act} {W : World} (hB : Region.seqB .any ops (ops.size - n) n listed = true) (h : ∀ W', Below W.heap.size W W' → C W' → wpList P ops Q tail a W') :
    wpE P .any ops Q C n (Tail P ops Q n tail) 0 listed a W := fun W' hb hC => ⟨hB, h W' hb hC⟩
def headB (ops : Array Oper) (n : Nat) : Bool := Region.noSelect ops && (decide (n = ops.size) || (decide (n < ops.size) && Region.sinkB .any ops n && Region.chainB .any ops n))
theorem headB_waits (h : headB ops n = true) : Region.noSelect ops = true ∧ n ≤ ops.size ∧ Waits .any ops n := by
  simp only [headB, Bool.and_eq_true, Bool.or_eq_true, decide_eq_true_eq] at h
  obtain ⟨h1, h2 | ⟨⟨h2, h3⟩, h4⟩⟩ := h
  · exact ⟨h1, Nat.le_of_eq h2, waits_all h2⟩
  · exact ⟨h1, Nat.le_of_lt h2, waits_tail h3 h4 h2⟩
theorem region_any_E {l : List Oper} {a : Act} {w : World} (hn : n ≤ l.length) (hC : C w) (h : wpE P .any l.toArray Q C n (Tail P l.toArray Q n (l.drop n)) n (Array.replicate l.toArray.size false) a w) :
    wpAny P .any l.toArray Q l.toArray.size (Array.replicate l.toArray.size false) a w := by
  have hdl : (l.drop n).length = l.toArray.size - n := by simp
  have := wpAny_of_wpE (Q := Q) (g := l.toArray.size - n) (fun listed a' W hL => by
    have := wpAny_of_seq (md := .any) (Q' := Q) (l.drop n) n listed a' W (fun j => by simp [List.getElem?_drop]) (by rw [hdl]; exact hL.1) hL.2
    rwa [hdl] at this) n _ _ _ hC h
  rw [show n + (l.toArray.size - n) = l.toArray.size by simp; omega] at this
  exact this
/-- **The law**: the operations 'is' of the head are taken first, in the order of the text ('qs'); what is left of the head, then the tail. -/
theorem wpAny_E (n : Nat) (is : List Nat) (qs : List Oper) (f : Nat) {l : List Oper} {a : Act} {w : World} (hB : headB l.toArray n = true) (hCR : CR C) (hC : C w) (hQ : ∀ c a (d : Option Tmp) v w, Q (.panic c) (a.put d v) w → Q (.panic c) a w)
    (hf : is.length + f = n) (hqs : is.map (fun i => l.toArray[i]?) = qs.map some) (hT : takesB .any l.toArray n is (Array.replicate l.toArray.size false) = true)
    (h : wpQ2 P l.toArray C (fun a' => wpE P .any l.toArray Q C n (Tail P l.toArray Q n (l.drop n)) f (markAll is (Array.replicate l.toArray.size false)) a' w) qs a) :
    wpAny P .any l.toArray Q l.toArray.size (Array.replicate l.toArray.size false) a w := by
  obtain ⟨h1, h2, h3⟩ := headB_waits hB
  refine region_any_E (by simpa using h2) hC ?_
  rw [← hf] at *
  refine wpE_takes hCR h1 h3 hQ (fun listed a W hL j hj => seqB_ready hL.1 j hj) is qs _ a hqs (headInv0 h2) hT ?_
  exact wpQ2_mono qs a (fun a h _ => h) h
end
/-- All that was there lies as it lay. -/
def Ext2 (w W : World) : Prop := Below w.heap.size w W
theorem below_alloc' (w : World) (o : Obj) : Below w.heap.size w (w.alloc o) := (Below.refl _ _).alloc (Nat.le_refl _) o
theorem Ext2.cr (w : World) : CR (Ext2 w) := fun _ _ h hb => Below.trans h (hb.mono h.size)
theorem Ext2.drew (w : World) : Ext2 w w.drew := (Below.refl _ _).drew
theorem Ext2.refl (w : World) : Ext2 w w := Below.refl _ _
instance instCls (w : World) : Nonempty (Cls (Ext2 w)) := ⟨⟨w, Below.refl _ _⟩⟩
theorem Ext2.on {w T W : World} (h : Ext2 T W) (hT : Below w.heap.size w T) : Below w.heap.size w W := hT.trans (Below.mono h hT.size)
theorem Ext2.size {w W : World} (h : Ext2 w W) : w.heap.size ≤ W.heap.size := Below.size h
/-- What stands in a cell that is not known to have been there. -/
def farCell (W : World) (a : Addr) : Option Value := W.cell? a
def farFrozen (W : World) (a : Addr) : Bool := W.frozen? a
theorem Ext2.cell {w W : World} (h : Ext2 w W) (a : Addr) : W.cell? a = (w.cell? a).or (farCell W a) := by
  cases hc : w.cell? a with
  | none => rfl
  | some v => rw [Option.some_or, ← hc]; exact Below.cell h (World.block_lt_of_cell? w a hc)
theorem Ext2.frozen {w W : World} (h : Ext2 w W) (a : Addr) : W.frozen? a = if (w.cell? a).isSome then w.frozen? a else farFrozen W a := by
  cases hc : w.cell? a with
  | none => rfl
  | some v => exact Below.frozen h (World.block_lt_of_cell? w a hc)
theorem cls_cell {w : World} (x : Cls (Ext2 w)) (a : Addr) : x.1.cell? a = (w.cell? a).or (farCell x.1 a) := Ext2.cell x.2 a
theorem cls_frozen {w : World} (x : Cls (Ext2 w)) (a : Addr) : x.1.frozen? a = if (w.cell? a).isSome then w.frozen? a else farFrozen x.1 a := Ext2.frozen x.2 a
theorem wp_name {P : Program} {c : Code} {Q : Exit → Act → World → Prop} {a : Act} {w : World} (h : ∀ w0, w0 = w → c.wp P Q a w0) : c.wp P Q a w := h w rfl
theorem wpIn_name {F : Fence} {n : Nat} {P : Program} {c : Code} {Q : Exit → Act → World → Prop} {a : Act} {w : World} (h : ∀ w0, w0 = w → c.wpIn F n P Q a w0) : c.wpIn F n P Q a w := h w rfl
section
variable {P : Program} {Q : Exit → Act → World → Prop}
def takeB (ops : Array Oper) (n : Nat) : Bool := headB ops n && takesB .any ops n (List.range n) (Array.replicate ops.size false) && Region.seqB .any ops (ops.size - n) n (markAll (List.range n) (Array.replicate ops.size false))
theorem range_map (l : List Oper) : ∀ (n k : Nat), k + n ≤ l.length → (List.range' k n).map (fun i => l.toArray[i]?) = ((l.drop k).take n).map some
  | 0, k, _ => by simp
  | n + 1, k, h => by
    have h1 : k < l.length := by omega
    rw [List.range'_succ, List.map_cons, range_map l n (k + 1) (by omega), List.drop_eq_getElem_cons h1, List.take_succ_cons, List.map_cons]
    congr 1
    simp [h1]
theorem wpAny_take (n : Nat) {l : List Oper} {a : Act} {w : World} (hB : takeB l.toArray n = true) (hQ : ∀ c a (d : Option Tmp) v w, Q (.panic c) (a.put d v) w → Q (.panic c) a w)
    (h : wpQ2 P l.toArray (Ext2 w) (fun a' => ∀ W', Ext2 w W' → wpList P l.toArray Q (l.drop n) a' W') (l.take n) a) :
    wpAny P .any l.toArray Q l.toArray.size (Array.replicate l.toArray.size false) a w.drew := by
  simp only [takeB, Bool.and_eq_true] at hB
  obtain ⟨⟨h1, h2⟩, h3⟩ := hB
  have hn : n ≤ l.length := by have := (headB_waits h1).2.1; simpa using this
  refine wpAny_E (C := Ext2 w) n (List.range n) (l.take n) 0 h1 (Ext2.cr w) (Ext2.drew w) hQ (by simp) ?_ h2 ?_
  · have := range_map l n 0 (by omega)
    rw [List.range_eq_range']; simpa using this
  · have mono : ∀ (qs : List Oper) (a : Act) {K K' : Act → Prop}, (∀ a, K a → K' a) → wpQ2 P l.toArray (Ext2 w) K qs a → wpQ2 P l.toArray (Ext2 w) K' qs a := fun qs a _ _ hk h => wpQ2_mono qs a hk h
    exact mono _ _ (fun a' h4 => wpE_tail h3 fun W' _ hC => h4 W' hC) h
end
end Go.Proofs.YtapeakbngligaaaGreatDoor
namespace Go.Proofs.YtapeakbngligaaaGreatDoor
open Go.RowKit
set_option linter.unusedVariables false
set_option linter.unusedSimpArgs false
section
variable {P : Program} {md : Region.Mode} {ops : Array Oper} {Q : Exit → Act → World → Prop} {C : World → Prop}
structure HInv (md : Region.Mode) (ops : Array Oper) (tl : Nat → Bool) (listed : Array Bool) : Prop where
  size : listed.size = ops.size
  closed : ∀ j oj, ops[j]? = some oj → listed.getD j false = true → ∀ e ∈ oj.after, Region.binds md e = true → listed.getD e.on false = true
  tail : ∀ t, tl t = true → t < ops.size → listed.getD t true = false
theorem HInv.set {tl : Nat → Bool} {i : Nat} {listed : Array Bool} (inv : HInv md ops tl listed) (hi : i ∈ Region.ready md ops listed) (hin : tl i = false) : HInv md ops tl (listed.setIfInBounds i true) := by
  obtain ⟨_, oi, hoi, hall⟩ := mem_ready.1 hi
  refine ⟨by simp [inv.size], fun j oj hj hl e he hb => ?_, fun t ht ht' => by rw [getD_set_ne true (fun h => by subst h; rw [hin] at ht; cases ht)]; exact inv.tail t ht ht'⟩
  by_cases hij : i = j
  · subst hij
    have : oj = oi := Option.some.inj (hj.symm.trans hoi)
    subst this
    exact getD_set_true (hall e he hb)
  · rw [getD_set_ne false hij] at hl
    exact getD_set_true (inv.closed j oj hj hl e he hb)
theorem HInv.start (tl : Nat → Bool) : HInv md ops tl (Array.replicate ops.size false) :=
  ⟨by simp, fun j oj _ hl => (by rw [getD_replicate_false] at hl; cases hl), fun t _ ht => getD_in (by simpa using ht) (getD_replicate_false _ _)⟩
/-! What must have come before. -/
def predsOf (md : Region.Mode) (ops : Array Oper) (j : Nat) : List Nat := match ops[j]? with
  | some o => (o.after.toList.filter (Region.binds md)).map (·.on)
  | none => []
def closeM (md : Region.Mode) (ops : Array Oper) : Nat → List Nat → List Nat
  | 0, M => M
  | n + 1, M => closeM md ops n (if M.contains n then predsOf md ops n ++ M else M)
theorem preds_listed {listed : Array Bool} {j : Nat} (h : ∀ oj, ops[j]? = some oj → ∀ e ∈ oj.after, Region.binds md e = true → listed.getD e.on false = true) : ∀ x ∈ predsOf md ops j, listed.getD x false = true := by
  intro x hx
  unfold predsOf at hx
  split at hx
  · rename_i o ho
    obtain ⟨e, he, rfl⟩ := List.mem_map.1 hx
    have := List.mem_filter.1 he
    exact h o ho e (by simpa using this.1) this.2
  · cases hx
theorem closeM_listed {tl : Nat → Bool} {listed : Array Bool} (inv : HInv md ops tl listed) : ∀ (n : Nat) (M : List Nat), (∀ x ∈ M, listed.getD x false = true) → ∀ x ∈ closeM md ops n M, listed.getD x false = true
  | 0, M, h, x, hx => h x hx
  | n + 1, M, h, x, hx => by
    rw [closeM] at hx
    refine closeM_listed inv n _ (fun y hy => ?_) x hx
    split at hy
    · rename_i hc
      rcases List.mem_append.1 hy with hy | hy
      · have hn : listed.getD n false = true := h n (by simpa using hc)
        exact preds_listed (fun oj hj e he hb => inv.closed n oj hj hn e he hb) y hy
      · exact h y hy
    · exact h y hy
/-- While one that is not of the tail is to come, none of the tail may come up. -/
def Waits3 (md : Region.Mode) (ops : Array Oper) (D tl : Nat → Bool) : Prop := ∀ listed, HInv md ops tl listed → (∀ i, D i = true → listed.getD i true = true) → ∀ i, tl i = false → listed.getD i true = false → ∀ j ∈ Region.ready md ops listed, tl j = false
def waitsB (md : Region.Mode) (ops : Array Oper) (D tl : Nat → Bool) : Bool := (List.range ops.size).all fun t => !tl t || (let M := closeM md ops ops.size (predsOf md ops t); (List.range ops.size).all fun i => tl i || D i || M.contains i)
theorem waits3 {D tl : Nat → Bool} (h : waitsB md ops D tl = true) : Waits3 md ops D tl := by
  intro listed inv hD i hi hun j hj
  cases hjt : tl j with
  | false => rfl
  | true =>
    obtain ⟨_, oj, hoj, hall⟩ := mem_ready.1 hj
    have hjs : j < ops.size := (Array.getElem?_eq_some_iff.1 hoj).1
    have his : i < ops.size := by
      rcases Nat.lt_or_ge i listed.size with h' | h'
      · rw [← inv.size]; exact h'
      · simp [Array.getElem?_eq_none h'] at hun
    have h1 := List.all_eq_true.1 h j (List.mem_range.2 hjs)
    rw [hjt] at h1
    simp only [Bool.not_true, Bool.false_or] at h1
    have h2 := List.all_eq_true.1 h1 i (List.mem_range.2 his)
    simp only [Bool.or_eq_true, hi, Bool.false_eq_true, false_or] at h2
    rcases h2 with h2 | h2
    · rw [hD i h2] at hun; cases hun
    · have h3 := closeM_listed inv ops.size _ (preds_listed (md := md) (ops := ops) (j := j) (fun o ho e he hb => by rw [hoj] at ho; cases ho; exact hall e he hb)) i (by simpa using h2)
      rw [getD_both hun] at h3; cases h3
def wpE3 (P : Program) (md : Region.Mode) (ops : Array Oper) (Q : Exit → Act → World → Prop) (C : World → Prop) (tl : Nat → Bool) (L : Array Bool → Act → World → Prop) : Nat → Array Bool → Act → World → Prop
  | 0, listed, a, W => ∀ W', Below W.heap.size W W' → C W' → L listed a W'
  | f + 1, listed, a, W => ∀ W', Below W.heap.size W W' → C W' → Region.ready md ops listed ≠ [] ∧ ∀ i ∈ Region.ready md ops listed, tl i = false ∧
      wpOp P ops Q i (fun a2 W2 => C W2 ∧ wpE3 P md ops Q C tl L f (listed.setIfInBounds i true) a2 W2) a W'
variable {D tl : Nat → Bool} {L : Array Bool → Act → World → Prop}
theorem wpE3.later {f : Nat} {listed : Array Bool} {a : Act} {W W1 : World} (h : wpE3 P md ops Q C tl L f listed a W) (hb : Below W.heap.size W W1) : wpE3 P md ops Q C tl L f listed a W1 := by
  cases f with
  | zero => exact fun W' hb' hC => h W' (hb.trans (hb'.mono hb.size)) hC
  | succ f => exact fun W' hb' hC => h W' (hb.trans (hb'.mono hb.size)) hC
theorem wpAny_of_wpE3 {g : Nat} (hL : ∀ listed a W, L listed a W → wpAny P md ops Q g listed a W) : ∀ (f : Nat) (listed : Array Bool) (a : Act) (W : World), C W → wpE3 P md ops Q C tl L f listed a W → wpAny P md ops Q (f + g) listed a W
  | 0, listed, a, W, hC, h => by rw [Nat.zero_add]; exact hL _ _ _ (h W (Below.refl _ _) hC)
  | f + 1, listed, a, W, hC, h => by
    rw [show f + 1 + g = (f + g) + 1 by omega]
    obtain ⟨h1, h2⟩ := h W (Below.refl _ _) hC
    exact ⟨fun h0 => absurd h0 h1, fun i hi => wpOp_mono (fun a' w' h' => wpAny_of_wpE3 hL f _ a' w' h'.1 h'.2) (h2 i hi).2⟩
theorem wpE3_first (hCR : CR C) {i : Nat} {oi : Oper} {v : Value} (hi : ops[i]? = some oi) (hsel : ∀ (j : Nat) (o : Oper) cs b, ops[j]? = some o → o.op ≠ .select cs b) (hwt : Waits3 md ops D tl) (hin : tl i = false)
    (hQ : ∀ c a w, Q (.panic c) (a.put oi.dst v) w → Q (.panic c) a w)
    (hdone : ∀ listed a W, L listed a W → ∀ j ∈ Region.ready md ops listed, tl j = true) :
    ∀ (f : Nat) (listed : Array Bool) (a : Act) (W : World), HInv md ops tl listed → (∀ i, D i = true → listed.getD i true = true) →
      (∀ j oj, ops[j]? = some oj → j ≠ i → listed.getD j true = false → (∀ e ∈ oj.after, Region.binds md e = true → e.on ≠ i) → oi.apart ops oj = true) →
      i ∈ Region.ready md ops listed → Yields2 P ops C oi v a →
      wpE3 P md ops Q C tl L f (listed.setIfInBounds i true) (a.put oi.dst v) W → wpE3 P md ops Q C tl L (f + 1) listed a W := by
  intro f
  induction f with
  | zero =>
    intro listed a W inv hD _ hr hy H W' hb hC
    have hun := (mem_ready.1 hr).1
    refine ⟨fun h => (by rw [h] at hr; cases hr), fun j hj => ?_⟩
    refine ⟨hwt _ inv hD i hin hun j hj, ?_⟩
    by_cases hji : j = i
    · subst hji; exact hy.wpOp hCR hi hC fun W2 hb2 hC2 => ⟨hC2, wpE3.later (wpE3.later H hb) hb2⟩
    · have h1 := hdone _ _ _ (H W' hb hC) j (ready_mono hj hji)
      have h2 := hwt _ inv hD i hin hun j hj
      rw [h2] at h1; cases h1
  | succ f ih =>
    intro listed a W inv hD hfree hr hy H W' hb hC
    have hun := (mem_ready.1 hr).1
    refine ⟨fun h => (by rw [h] at hr; cases hr), fun j hj => ?_⟩
    have hjn := hwt _ inv hD i hin hun j hj
    refine ⟨hjn, ?_⟩
    by_cases hji : j = i
    · subst hji; exact hy.wpOp hCR hi hC fun W2 hb2 hC2 => ⟨hC2, wpE3.later (wpE3.later H hb) hb2⟩
    · have h1 := ((H W' hb hC).2 j (ready_mono hj hji)).2
      obtain ⟨hjun, oj, hoj, hall⟩ := mem_ready.1 hj
      have hnot : ∀ e ∈ oj.after, Region.binds md e = true → e.on ≠ i := fun e he hb heq => by
        have h1 := hall e he hb
        rw [heq, getD_both hun] at h1
        cases h1
      have h2 := wpOp_put2 hoj (hfree j oj hoj hji hjun hnot) (fun cs b => hsel i oi cs b hi) (fun cs b => hsel j oj cs b hoj) hQ hy h1
      have hfree' : ∀ k ok, ops[k]? = some ok → k ≠ i → (listed.setIfInBounds j true).getD k true = false →
          (∀ e ∈ ok.after, Region.binds md e = true → e.on ≠ i) → oi.apart ops ok = true := fun k ok hk hki hun hno => by
        refine hfree k ok hk hki ?_ hno
        by_cases hjk : j = k
        · subst hjk; exact hjun
        · rw [getD_set_ne true hjk] at hun; exact hun
      have hD' : ∀ k, D k = true → (listed.setIfInBounds j true).getD k true = true := fun k hk => by
        by_cases hjk : j = k
        · subst hjk; have := hD j hk; rw [hjun] at this; cases this
        · rw [getD_set_ne true hjk]; exact hD k hk
      refine wpOp_mono (fun a' W2 h3 => ⟨h3.2.1, ih (listed.setIfInBounds j true) a' W2 (inv.set hj hjn) hD' hfree' (ready_mono hr (Ne.symm hji)) h3.1 ?_⟩) h2
      rw [Array.setIfInBounds_comm _ _ hji]
      exact h3.2.2
theorem done_set {i : Nat} {listed : Array Bool} (hD : ∀ i, D i = true → listed.getD i true = true) : ∀ k, D k = true → (listed.setIfInBounds i true).getD k true = true := fun k hk => by
  by_cases h : i = k
  · subst h
    rcases Nat.lt_or_ge i listed.size with h' | h'
    · simp [h']
    · simp [Array.getElem?_eq_none h']
  · rw [getD_set_ne true h]; exact hD k hk
def takes3B (md : Region.Mode) (ops : Array Oper) (tl : Nat → Bool) : List Nat → Array Bool → Bool
  | [], _ => true
  | i :: is, listed => !tl i && (Region.ready md ops listed).contains i && Region.free md ops listed i && takes3B md ops tl is (listed.setIfInBounds i true)
theorem wpE3_takes (hCR : CR C) (hs : Region.noSelect ops = true) (hwt : Waits3 md ops D tl) (hQ : ∀ c a (d : Option Tmp) v w, Q (.panic c) (a.put d v) w → Q (.panic c) a w)
    (hdone : ∀ listed a W, L listed a W → ∀ j ∈ Region.ready md ops listed, tl j = true) {f : Nat} {W : World} :
    ∀ (is : List Nat) (l : List Oper) (listed : Array Bool) (a : Act), is.map (fun i => ops[i]?) = l.map some → HInv md ops tl listed → (∀ i, D i = true → listed.getD i true = true) → takes3B md ops tl is listed = true →
      wpQ2 P ops C (fun a' => HInv md ops tl (markAll is listed) → wpE3 P md ops Q C tl L f (markAll is listed) a' W) l a → wpE3 P md ops Q C tl L (is.length + f) listed a W
  | [], [], listed, a, _, inv, _, _, h => by rw [List.length_nil, Nat.zero_add]; exact h inv
  | [], _ :: _, _, _, hm, _, _, _, _ => by cases hm
  | _ :: _, [], _, _, hm, _, _, _, _ => by cases hm
  | i :: is, o :: l, listed, a, hm, inv, hD, hB, h => by
    simp only [List.map_cons, List.cons.injEq] at hm
    simp only [takes3B, Bool.and_eq_true, Bool.not_eq_true'] at hB
    obtain ⟨⟨⟨hin, hr⟩, hf⟩, hB'⟩ := hB
    have hr' : i ∈ Region.ready md ops listed := by simpa using hr
    have hy : ∃ v, Yields2 P ops C o v a ∧ wpQ2 P ops C (fun a' => HInv md ops tl (markAll (i :: is) listed) → wpE3 P md ops Q C tl L f (markAll (i :: is) listed) a' W) l (a.put o.dst v) := by
      simp only [wpQ2] at h
      by_cases hw : Region.wanted o (yielded ops a.tmps) = true
      · rw [if_pos hw] at h
        obtain ⟨v, h1, h2⟩ := h
        exact ⟨v, .inl ⟨hw, h1⟩, h2⟩
      · rw [if_neg hw] at h
        exact ⟨undef, .inr ⟨by simpa using hw, rfl⟩, h⟩
    obtain ⟨v, hy, hK⟩ := hy
    rw [List.length_cons, show is.length + 1 + f = (is.length + f) + 1 by omega]
    exact wpE3_first hCR hm.1 (Region.noSelect_spec hs) hwt hin (fun c a w => hQ c a _ v w) hdone _ listed a W inv hD (Region.free_spec hm.1 hf) hr' hy
      (wpE3_takes hCR hs hwt hQ hdone is l _ _ hm.2 (inv.set hr' hin) (done_set hD) hB' hK)
/-! Floats. -/
def wpQ0 (P : Program) (ops : Array Oper) (K : Act → Prop) : List Oper → Act → Prop
  | [], a => K a
  | o :: rest, a => if Region.wanted o (yielded ops a.tmps) = true then ∃ v, (∀ w, (execOp a.eval o).run P w = .ok (.value v) w) ∧ wpQ0 P ops K rest (a.put o.dst v) else wpQ0 P ops K rest (a.put o.dst undef)
theorem wpQ0_nil {K : Act → Prop} {a : Act} (h : K a) : wpQ0 P ops K [] a := h
def FirstUpon (v : Value) (w : World) : Result Next → Prop
  | .ok (.value u) w' => w' = w ∧ u = v
  | _ => False
theorem firstUpon_eq {v : Value} {w : World} {r : Result Next} (h : FirstUpon v w r) : r = .ok (.value v) w := by
  unfold FirstUpon at h; split at h
  · obtain ⟨rfl, rfl⟩ := h; rfl
  · exact h.elim
theorem wpQ0_step {K : Act → Prop} {a : Act} {o : Oper} {rest : List Oper}
    (h : ∀ K' : Act → Prop, (∀ a, wpQ0 P ops K rest a → K' a) → if Region.wanted o (yielded ops a.tmps) = true then ∃ v, (∀ w, FirstUpon v w ((execOp a.eval o).run P w)) ∧ K' (a.put o.dst v) else K' (a.put o.dst undef)) : wpQ0 P ops K (o :: rest) a := by
  have := h _ (fun _ h => h)
  simp only [wpQ0]
  split
  · rename_i hw; rw [if_pos hw] at this; obtain ⟨v, h1, h2⟩ := this; exact ⟨v, fun w => firstUpon_eq (h1 w), h2⟩
  · rename_i hw; rw [if_neg hw] at this; exact this
theorem wpAny_floats (hs : Region.noSelect ops = true) (hQ : ∀ c a (d : Option Tmp) v w, Q (.panic c) (a.put d v) w → Q (.panic c) a w) {f : Nat} {W : World} :
    ∀ (is : List Nat) (l : List Oper) (listed : Array Bool) (a : Act), is.map (fun i => ops[i]?) = l.map some → HInv md ops tl listed → takes3B md ops tl is listed = true →
      wpQ0 P ops (fun a' => HInv md ops tl (markAll is listed) → wpAny P md ops Q f (markAll is listed) a' W) l a → wpAny P md ops Q (is.length + f) listed a W
  | [], [], listed, a, _, inv, _, h => by rw [List.length_nil, Nat.zero_add]; exact h inv
  | [], _ :: _, _, _, hm, _, _, _ => by cases hm
  | _ :: _, [], _, _, hm, _, _, _ => by cases hm
  | i :: is, o :: l, listed, a, hm, inv, hB, h => by
    simp only [List.map_cons, List.cons.injEq] at hm
    simp only [takes3B, Bool.and_eq_true, Bool.not_eq_true'] at hB
    obtain ⟨⟨⟨hin, hr⟩, hf⟩, hB'⟩ := hB
    have hr' : i ∈ Region.ready md ops listed := by simpa using hr
    have hy : ∃ v, Yields P ops o v a ∧ wpQ0 P ops (fun a' => HInv md ops tl (markAll (i :: is) listed) → wpAny P md ops Q f (markAll (i :: is) listed) a' W) l (a.put o.dst v) := by
      simp only [wpQ0] at h
      by_cases hw : Region.wanted o (yielded ops a.tmps) = true
      · rw [if_pos hw] at h
        obtain ⟨v, h1, h2⟩ := h
        exact ⟨v, .inl ⟨hw, h1⟩, h2⟩
      · rw [if_neg hw] at h
        exact ⟨undef, .inr ⟨by simpa using hw, rfl⟩, h⟩
    obtain ⟨v, hy, hK⟩ := hy
    rw [List.length_cons, show is.length + 1 + f = (is.length + f) + 1 by omega]
    exact Go.wpAny_take hm.1 hs hf (by simpa using hr) (fun c a w => hQ c a _ v w) hy (wpAny_floats hs hQ is l _ _ hm.2 (inv.set hr' hin) hB' hK)
/-! Operations that lay one block each. -/
structure Al where
  i : Nat
  d : Nat
  val : Nat → Value
  ob : Obj
def AllocOk (P : Program) (ops : Array Oper) (a : Act) (x : Al) : Prop := ∃ o : Oper, ops[x.i]? = some o ∧ o.guard = none ∧ o.dst = some x.d ∧ ∀ W : World, (execOp a.eval o).run P W = .ok (.value (x.val W.heap.size)) (W.alloc x.ob)
def putAl (bs : Nat → Nat) (a : Act) (x : Al) : Act := a.put (some x.d) (x.val (bs x.i))
def NewBlocks (bs : Nat → Nat) (n : Nat) (R : List Al) (W : World) : Prop := (∀ x ∈ R, n ≤ bs x.i ∧ W.heap[bs x.i]? = some x.ob) ∧ R.Pairwise fun x y => bs x.i ≠ bs y.i
theorem AllocOk.put {a : Act} {x y : Al} {oy : Oper} (hsel : Region.noSelect ops = true) (h : AllocOk P ops a x) (hoy : ops[y.i]? = some oy) (hdy : oy.dst = some y.d) (hap : ∀ ox, ops[x.i]? = some ox → ox.apart ops oy = true) (v : Value) : AllocOk P ops (a.put (some y.d) v) x := by
  obtain ⟨o, ho, hg, hd, hal⟩ := h
  obtain ⟨_, _, h3⟩ := Oper.apart_spec (hap o ho)
  refine ⟨o, ho, hg, hd, fun W => ?_⟩
  rw [← hdy, execOp_put o (fun cs b => Region.noSelect_spec hsel x.i o cs b ho) a oy.dst v h3]
  exact hal W
/-! The tail. -/
def seqLB (md : Region.Mode) (ops : Array Oper) : List Nat → Array Bool → Bool
  | [], listed => (Region.ready md ops listed).isEmpty
  | k :: ts, listed => decide (Region.ready md ops listed = [k]) && seqLB md ops ts (listed.setIfInBounds k true)
theorem wpAny_of_seqL : ∀ (ts : List Nat) (l : List Oper) (listed : Array Bool) (a : Act) (w : World), ts.map (fun i => ops[i]?) = l.map some →
    seqLB md ops ts listed = true → wpList P ops Q l a w → wpAny P md ops Q ts.length listed a w
  | [], [], _, _, _, _, hB, h => ⟨by simpa [seqLB] using hB, h⟩
  | [], _ :: _, _, _, _, hm, _, _ => by cases hm
  | _ :: _, [], _, _, _, hm, _, _ => by cases hm
  | k :: ts, o :: l, listed, a, w, hm, hB, h => by
    simp only [List.map_cons, List.cons.injEq] at hm
    simp only [List.length_cons, seqLB, Bool.and_eq_true, decide_eq_true_eq] at hB
    refine ⟨fun h1 => (by rw [hB.1] at h1; cases h1), fun i hi => ?_⟩
    rw [hB.1] at hi
    have hik : i = k := by simpa using hi
    subst hik
    have hw : wpOp P ops Q i (wpList P ops Q l) a w := by unfold wpOp; simp only [hm.1]; exact h
    exact wpOp_mono (fun a' w' h' => wpAny_of_seqL ts l _ a' w' hm.2 hB.2 h') hw
/-! The law. -/
def picks (l : List Oper) : List Nat → List Oper
  | [] => []
  | i :: is => match l.drop i with
    | o :: _ => o :: picks l is
    | [] => picks l is
theorem picks_map {l : List Oper} : ∀ {is : List Nat}, (∀ i ∈ is, i < l.length) → is.map (fun i => l.toArray[i]?) = (picks l is).map some
  | [], _ => rfl
  | i :: is, h => by
    have hi := h i List.mem_cons_self
    have e : l.drop i = l[i] :: l.drop (i + 1) := List.drop_eq_getElem_cons hi
    rw [picks, e, List.map_cons, List.map_cons, picks_map (is := is) fun j hj => h j (List.mem_cons_of_mem _ hj)]
    simp [hi]
theorem mark_in (is : List Nat) (l : Array Bool) (j : Nat) : (markAll is l).getD j true = true ↔ (j ∈ is ∨ l.getD j true = true) := by
  induction is generalizing l with
  | nil => simp [markAll]
  | cons i is ih =>
    rw [markAll, ih]
    by_cases h : i = j
    · subst h
      have : (l.setIfInBounds i true).getD i true = true := by
        rcases Nat.lt_or_ge i l.size with h' | h'
        · simp [h']
        · simp [Array.getElem?_eq_none h']
      simp [this]
    · rw [getD_set_ne true h]
      simp [Ne.symm h]
/-- What is owed behind the reads: the blocks that are laid, then the tail. -/
def Blocks (P : Program) (l : List Oper) (Q : Exit → Act → World → Prop) (w : World) (as ts : List Nat) (a2 : Act) : Prop :=
  ∃ R : List Al, R.map (·.i) = as ∧ (∀ x ∈ R, AllocOk P l.toArray a2 x) ∧ ∀ (bs : Nat → Nat) W', NewBlocks bs w.heap.size R W' → Ext2 w W' → wpList P l.toArray Q (picks l ts) (R.foldl (putAl bs) a2) W'
theorem Blocks.none {l : List Oper} {w : World} {ts : List Nat} {a2 : Act} (h : ∀ W', Ext2 w W' → wpList P l.toArray Q (picks l ts) a2 W') : Blocks P l Q w [] ts a2 :=
  ⟨[], rfl, fun x hx => (by cases hx), fun _ W' _ hg => h W' hg⟩
theorem Blocks.one {l : List Oper} {w : World} {ts : List Nat} {a2 : Act} (i d : Nat) (mk : Nat → Value) (ob : Obj) (hal : AllocOk P l.toArray a2 ⟨i, d, mk, ob⟩)
    (h : ∀ b W', w.heap.size ≤ b → Ext2 w W' → W'.heap[b]? = some ob → wpList P l.toArray Q (picks l ts) (a2.put (some d) (mk b)) W') : Blocks P l Q w [i] ts a2 :=
  ⟨[⟨i, d, mk, ob⟩], rfl, fun x hx => (by rcases List.mem_cons.1 hx with rfl | hx; exact hal; cases hx), fun bs W' hn hg => h (bs i) W' (hn.1 _ List.mem_cons_self).1 hg (hn.1 _ List.mem_cons_self).2⟩
theorem Blocks.two {l : List Oper} {w : World} {ts : List Nat} {a2 : Act} (i d : Nat) (mk : Nat → Value) (ob : Obj) (i' d' : Nat) (mk' : Nat → Value) (ob' : Obj) (hal : AllocOk P l.toArray a2 ⟨i, d, mk, ob⟩) (hal' : AllocOk P l.toArray a2 ⟨i', d', mk', ob'⟩)
    (h : ∀ b b' W', w.heap.size ≤ b → w.heap.size ≤ b' → b ≠ b' → Ext2 w W' → W'.heap[b]? = some ob → W'.heap[b']? = some ob' → wpList P l.toArray Q (picks l ts) ((a2.put (some d) (mk b)).put (some d') (mk' b')) W') : Blocks P l Q w [i, i'] ts a2 :=
  ⟨[⟨i, d, mk, ob⟩, ⟨i', d', mk', ob'⟩], rfl, fun x hx => (by rcases List.mem_cons.1 hx with rfl | hx; exact hal; rcases List.mem_cons.1 hx with rfl | hx; exact hal'; cases hx), fun bs W' hn hg =>
    h (bs i) (bs i') W' (hn.1 _ List.mem_cons_self).1 (hn.1 _ (List.mem_cons_of_mem _ List.mem_cons_self)).1 ((List.pairwise_cons.1 hn.2).1 _ List.mem_cons_self) hg (hn.1 _ List.mem_cons_self).2 (hn.1 _ (List.mem_cons_of_mem _ List.mem_cons_self)).2⟩
open Classical in
end
end Go.Proofs.YtapeakbngligaaaGreatDoor
namespace Go.Proofs.YtapeakbngligaaaGreatDoor
open Go.RowKit
set_option linter.unusedVariables false
set_option linter.unusedSimpArgs false
section
variable {P : Program} {md : Region.Mode} {ops : Array Oper} {Q : Exit → Act → World → Prop} {C : World → Prop} {D tl : Nat → Bool} {L : Array Bool → Act → World → Prop}
/-- One block turned, all else as it lay. -/
structure Turn (b : Nat) (ob : Obj) (W W' : World) : Prop where
  os : W'.os = W.os
  tape : W'.tape = W.tape
  output : W'.output = W.output
  size : W'.heap.size = W.heap.size
  other : ∀ k, k ≠ b → W'.heap[k]? = W.heap[k]?
  at_ : W'.heap[b]? = some ob
theorem Turn.below {b B : Nat} {ob : Obj} {w W W' : World} (h : Turn b ob W W') (hb : Below B w W) (hB : B ≤ b) : Below B w W' :=
  ⟨h.os.trans hb.os, h.tape.trans hb.tape, h.output.trans hb.output, by rw [h.size]; exact hb.size, fun k hk => (h.other k (by omega)).trans (hb.block k hk)⟩
theorem turn_set {b o : Nat} {c : Array Value} {t : TypeId} {f : Nat × Nat} {W : World} (h : W.heap[b]? = some (.cells c t f)) (v : Value) : Turn b (.cells (c.setIfInBounds o v) t f) W (W.setCell ⟨b, o, none⟩ v) :=
  ⟨rfl, rfl, rfl, World.size_setCell _ _ _, fun k hk => by simp [World.setCell, Array.getElem?_modify, Ne.symm hk], by simp [World.setCell, Array.getElem?_modify, h]⟩
theorem Turn.set {b o : Nat} {c : Array Value} {t : TypeId} {f : Nat × Nat} {W W' : World} (h : Turn b (.cells c t f) W W') (v : Value) : Turn b (.cells (c.setIfInBounds o v) t f) W (W'.setCell ⟨b, o, none⟩ v) := by
  have h2 := turn_set (o := o) h.at_ v
  exact ⟨h2.os.trans h.os, h2.tape.trans h.tape, h2.output.trans h.output, h2.size.trans h.size, fun k hk => (h2.other k hk).trans (h.other k hk), h2.at_⟩
/-- An operation that lays a block (or, where 'lay' is none, only hands back a value); the store that fills the block. -/
structure Ev where
  i : Nat
  d : Nat
  val : Nat → Value
  lay : Option Obj
  st : Option (Nat × Obj)
def Ev.post (e : Ev) (W : World) : Result Next := match e.lay with
  | none => .ok (.value (e.val 0)) W
  | some ob => .ok (.value (e.val W.heap.size)) (W.alloc ob)
structure EvOk (P : Program) (ops : Array Oper) (a : Act) (e : Ev) : Prop where
  run : ∃ o : Oper, ops[e.i]? = some o ∧ o.guard = none ∧ o.dst = some e.d ∧ ∀ W : World, (execOp a.eval o).run P W = e.post W
  pure_ : e.lay = none → e.st = none ∧ ∀ b, e.val b = e.val 0
  put : ∀ si ob', e.st = some (si, ob') → ∃ (o : Oper) (ob : Obj), e.lay = some ob ∧ ops[si]? = some o ∧ o.guard = none ∧ o.dst = none ∧
    ∀ b W, W.heap[b]? = some ob → ∃ W2, (execOp (a.put (some e.d) (e.val b)).eval o).run P W = .ok .skip W2 ∧ Turn b ob' W W2
def putEv (bs : Nat → Nat) (a : Act) (x : Ev) : Act := a.put (some x.d) (x.val (bs x.i))
def Ev.fin (e : Ev) (ob : Obj) : Obj := match e.st with
  | some (_, ob') => ob'
  | none => ob
def Ev.now (e : Ev) (listed : Array Bool) (ob : Obj) : Obj := match e.st with
  | some (si, ob') => if listed.getD si true = true then ob' else ob
  | none => ob
def evIdx (E : List Ev) : List Nat := E.map (·.i) ++ E.filterMap (fun e => e.st.map (·.1))
/-- What lies behind all of them. -/
structure EvBlocks (bs : Nat → Nat) (n : Nat) (E : List Ev) (W : World) : Prop where
  at_ : ∀ e ∈ E, ∀ ob, e.lay = some ob → n ≤ bs e.i ∧ W.heap[bs e.i]? = some (e.fin ob)
  ne : ∀ e ∈ E, ∀ f ∈ E, e.lay.isSome = true → f.lay.isSome = true → e.i ≠ f.i → bs e.i ≠ bs f.i
theorem blk_lt' {W : World} {b : Nat} {x : Obj} (h : W.heap[b]? = some x) : b < W.heap.size := (Array.getElem?_eq_some_iff.1 h).1
def isDone (listed : Array Bool) (i : Nat) : Bool := listed.getD i true
structure EvInv (E : List Ev) (a0 : Act) (n : Nat) (listed : Array Bool) (bs : Nat → Nat) (a : Act) (W : World) : Prop where
  act : a = (E.filter fun e => isDone listed e.i).foldl (putEv bs) a0
  at_ : ∀ e ∈ E, isDone listed e.i = true → ∀ ob, e.lay = some ob → n ≤ bs e.i ∧ W.heap[bs e.i]? = some (e.now listed ob)
  ne : ∀ e ∈ E, ∀ f ∈ E, isDone listed e.i = true → isDone listed f.i = true → e.lay.isSome = true → f.lay.isSome = true → e.i ≠ f.i → bs e.i ≠ bs f.i
  early : ∀ e ∈ E, ∀ si ob', e.st = some (si, ob') → isDone listed si = true → isDone listed e.i = true
theorem evs_same {bs bs' : Nat → Nat} : ∀ {R : List Ev} {a : Act}, (∀ y ∈ R, bs' y.i = bs y.i) → R.foldl (putEv bs') a = R.foldl (putEv bs) a
  | [], _, _ => rfl
  | y :: R, a, h => by
    rw [List.foldl_cons, List.foldl_cons, evs_same (fun z hz => h z (List.mem_cons_of_mem _ hz))]
    rw [putEv, putEv, h y List.mem_cons_self]
theorem evs_perm {R S : List Ev} (h : R.Perm S) (hd : ∀ x ∈ R, ∀ y ∈ R, x ≠ y → x.d ≠ y.d) (bs : Nat → Nat) (a : Act) : R.foldl (putEv bs) a = S.foldl (putEv bs) a := by
  refine List.Perm.foldl_eq' h (fun x hx y hy z => ?_) a
  by_cases hxy : x.d = y.d
  · have : x = y := Classical.byContradiction fun e => hd x hx y hy e hxy
    rw [this]
  · exact Act.put_comm _ _ _ (fun d hd' h => by cases hd'; exact hxy (Option.some.inj h).symm)
theorem evs_exec {o : Oper} (hs : ∀ cs b, o.op ≠ .select cs b) (bs : Nat → Nat) : ∀ (R : List Ev) (a : Act), (∀ y ∈ R, y.d ∉ o.looksAt ops) → execOp (R.foldl (putEv bs) a).eval o = execOp a.eval o
  | [], _, _ => rfl
  | y :: R, a, h => by
    rw [List.foldl_cons, evs_exec hs bs R _ (fun z hz => h z (List.mem_cons_of_mem _ hz)), putEv, execOp_put o hs a _ _ (fun d hd => by cases hd; exact h y List.mem_cons_self)]
theorem isDone_set {listed : Array Bool} {i j : Nat} (hi : i < listed.size) : isDone (listed.setIfInBounds i true) j = (decide (j = i) || isDone listed j) := by
  unfold isDone
  by_cases h : i = j
  · subst h; simp [hi]
  · rw [getD_set_ne true h]; simp [Ne.symm h]
def orderedB (md : Region.Mode) (ops : Array Oper) : Bool := (List.range ops.size).all fun j => match ops[j]? with
  | some o => o.after.all fun e => !Region.binds md e || decide (e.on < j)
  | none => true
theorem ready_some (ho : orderedB md ops = true) {listed : Array Bool} (hs : listed.size = ops.size) : ∀ (i : Nat), listed.getD i true = false → Region.ready md ops listed ≠ [] := by
  intro i
  induction i using Nat.strongRecOn with
  | _ i ih =>
    intro hi
    have hlt : i < ops.size := by
      rcases Nat.lt_or_ge i listed.size with h' | h'
      · omega
      · simp [Array.getElem?_eq_none h'] at hi
    by_cases hr : i ∈ Region.ready md ops listed
    · intro h0; rw [h0] at hr; cases hr
    · have hoi : ops[i]? = some ops[i] := Array.getElem?_eq_getElem hlt
      have : ∃ e ∈ ops[i].after, Region.binds md e = true ∧ listed.getD e.on false = false := by
        refine Classical.byContradiction fun hn => hr (mem_ready.2 ⟨hi, _, hoi, fun e he hb => ?_⟩)
        cases hl : listed.getD e.on false with
        | true => rfl
        | false => exact absurd ⟨e, he, hb, hl⟩ hn
      obtain ⟨e, he, hb, hl⟩ := this
      have h1 := List.all_eq_true.1 ho i (List.mem_range.2 hlt)
      rw [hoi] at h1
      have h2 := Array.all_eq_true_iff_forall_mem.1 h1 e he
      rw [hb] at h2
      have h3 : e.on < i := by simpa using h2
      exact ih e.on h3 (getD_in (by omega) hl)
/-- What is asked of the list, apart from the runs. -/
structure EvWell (ops : Array Oper) (E : List Ev) : Prop where
  idx : (evIdx E).Nodup
  apart : ∀ x ∈ E, ∀ y ∈ E, x.i ≠ y.i → ∀ oy, ops[y.i]? = some oy → x.d ∉ oy.looksAt ops
  ds : ∀ x ∈ E, ∀ y ∈ E, x.i ≠ y.i → x.d ≠ y.d
  st : ∀ x ∈ E, ∀ y ∈ E, x.i ≠ y.i → ∀ si ob', y.st = some (si, ob') → ∀ o, ops[si]? = some o → x.d ∉ o.looksAt ops
  self : ∀ x ∈ E, ∀ ox, ops[x.i]? = some ox → x.d ∉ ox.looksAt ops
  after : ∀ y ∈ E, ∀ si ob', y.st = some (si, ob') → ∃ o, ops[si]? = some o ∧ ∃ e ∈ o.after, Region.binds .any e = true ∧ e.on = y.i
theorem ev_unique {E : List Ev} (h : (evIdx E).Nodup) : ∀ {x y : Ev}, x ∈ E → y ∈ E → x.i = y.i → x = y := by
  have h1 : (E.map (·.i)).Nodup := (List.nodup_append.1 h).1
  intro x y hx hy hxy
  by_cases e : x = y
  · exact e
  · exfalso
    have h2 : E.Pairwise fun x y => x.i ≠ y.i := List.pairwise_map.1 h1
    clear h h1
    induction E with
    | nil => cases hx
    | cons z E ih =>
      obtain ⟨k1, k2⟩ := List.pairwise_cons.1 h2
      rcases List.mem_cons.1 hx with ex | hx'
      · rcases List.mem_cons.1 hy with ey | hy'
        · exact e (ex.trans ey.symm)
        · exact k1 y hy' (by rw [← ex]; exact hxy)
      · rcases List.mem_cons.1 hy with ey | hy'
        · exact k1 x hx' (by rw [← ey]; exact hxy.symm)
        · exact ih hx' hy' k2
theorem st_unique {E : List Ev} (h : (evIdx E).Nodup) {x y : Ev} {s : Nat} {o o' : Obj} (hx : x ∈ E) (hy : y ∈ E) (h1 : x.st = some (s, o)) (h2 : y.st = some (s, o')) : x = y := by
  have h3 : (E.filterMap fun e => e.st.map (·.1)).Nodup := (List.nodup_append.1 h).2.1
  clear h
  induction E with
  | nil => cases hx
  | cons z E ih =>
    rcases List.mem_cons.1 hx with ex | hx'
    · rcases List.mem_cons.1 hy with ey | hy'
      · exact ex.trans ey.symm
      · exfalso
        subst ex
        rw [List.filterMap_cons, h1] at h3
        exact (List.nodup_cons.1 h3).1 (List.mem_filterMap.2 ⟨y, hy', by rw [h2]; rfl⟩)
    · rcases List.mem_cons.1 hy with ey | hy'
      · exfalso
        subst ey
        rw [List.filterMap_cons, h2] at h3
        exact (List.nodup_cons.1 h3).1 (List.mem_filterMap.2 ⟨x, hx', by rw [h1]; rfl⟩)
      · refine ih hx' hy' ?_
        rw [List.filterMap_cons] at h3
        cases hz : z.st with
        | none => rw [hz] at h3; exact h3
        | some p => rw [hz] at h3; exact (List.nodup_cons.1 h3).2
theorem st_not_i {E : List Ev} (h : (evIdx E).Nodup) {x y : Ev} {s : Nat} {o : Obj} (hx : x ∈ E) (hy : y ∈ E) (h1 : x.st = some (s, o)) : s ≠ y.i := fun e =>
  (List.nodup_append.1 h).2.2 y.i (List.mem_map_of_mem hy) s (List.mem_filterMap.2 ⟨x, hx, by rw [h1]; rfl⟩) e.symm
open Classical in
theorem wpE3_evs {w : World} (hsel : Region.noSelect ops = true) (hord : orderedB .any ops = true) (hwt : Waits3 .any ops D tl) {E : List Ev} (hE : EvWell ops E) {a0 : Act} (hok : ∀ e ∈ E, EvOk P ops a0 e)
    (hfin : ∀ (bs : Nat → Nat) W', EvBlocks bs w.heap.size E W' → Ext2 w W' → ∀ listed, (∀ i, i < ops.size → tl i = false → listed.getD i true = true) → HInv .any ops tl listed → L listed (E.foldl (putEv bs) a0) W') :
    ∀ (m : Nat) (R : List Nat) (listed : Array Bool) (a : Act) (W : World) (bs : Nat → Nat), R.length = m → R.Nodup → HInv .any ops tl listed → (∀ i, D i = true → listed.getD i true = true) →
      (∀ i ∈ R, i ∈ evIdx E ∧ tl i = false ∧ listed.getD i true = false) → (∀ i, i < ops.size → tl i = false → listed.getD i true = false → i ∈ R) → (∀ i ∈ evIdx E, i ∉ R → isDone listed i = true) → Ext2 w W → EvInv E a0 w.heap.size listed bs a W →
      wpE3 P .any ops Q (Ext2 w) tl L m listed a W
  | 0, R, listed, a, W, bs, hm, hnd, inv, hD, hR, hcov, hall, hext, J => by
    obtain rfl := List.eq_nil_of_length_eq_zero hm
    intro W' hb hC
    have hdone : ∀ e ∈ E, isDone listed e.i = true := fun e he => hall e.i (List.mem_append_left _ (List.mem_map_of_mem he)) (fun h => by cases h)
    have hf : (E.filter fun e => isDone listed e.i) = E := List.filter_eq_self.2 hdone
    have ha := J.act
    rw [hf] at ha
    rw [ha]
    refine hfin bs W' ⟨fun e he ob hl => ?_, fun e he f hf' h1 h2 h3 => J.ne e he f hf' (hdone e he) (hdone f hf') h1 h2 h3⟩ hC listed (fun i h1 h2 => ?_) inv
    · have h1 := J.at_ e he (hdone e he) ob hl
      refine ⟨h1.1, ?_⟩
      rw [hb.block _ (blk_lt' h1.2), h1.2]
      unfold Ev.now Ev.fin
      cases hst : e.st with
      | none => rfl
      | some p =>
        have h4 : isDone listed p.1 = true := hall p.1 (List.mem_append_right _ (List.mem_filterMap.2 ⟨e, he, by rw [hst]; rfl⟩)) (fun h => by cases h)
        unfold isDone at h4
        simp [h4]
    · cases hl : listed.getD i true with
      | true => rfl
      | false => have := hcov i h1 h2 hl; cases this
  | m + 1, R, listed, a, W, bs, hm, hnd, inv, hD, hR, hcov, hall, hext, J => by
    intro W' hb hC
    obtain ⟨r0, hr0⟩ : ∃ x, x ∈ R := List.exists_mem_of_length_pos (by omega)
    refine ⟨ready_some hord inv.size r0 (hR r0 hr0).2.2, fun j hj => ?_⟩
    have hjt := hwt _ inv hD r0 (hR r0 hr0).2.1 (hR r0 hr0).2.2 j hj
    refine ⟨hjt, ?_⟩
    obtain ⟨hjun, oj, hoj, hpre⟩ := mem_ready.1 hj
    have hjs : j < ops.size := (Array.getElem?_eq_some_iff.1 hoj).1
    have hjl : j < listed.size := by rw [inv.size]; exact hjs
    have hjR := hcov j hjs hjt hjun
    have hjE := (hR j hjR).1
    -- what is common to both ways on
    have hR' : ∀ i ∈ R.erase j, i ∈ evIdx E ∧ tl i = false ∧ (listed.setIfInBounds j true).getD i true = false := fun i hi => by
      have h1 := hR i (List.mem_of_mem_erase hi)
      have hne : j ≠ i := fun e => by subst e; exact (List.Nodup.mem_erase_iff hnd).1 hi |>.1 rfl
      exact ⟨h1.1, h1.2.1, by rw [getD_set_ne true hne]; exact h1.2.2⟩
    have hcov' : ∀ i, i < ops.size → tl i = false → (listed.setIfInBounds j true).getD i true = false → i ∈ R.erase j := fun i h1 h2 h3 => by
      by_cases hne : j = i
      · subst hne; simp [hjl] at h3
      · rw [getD_set_ne true hne] at h3
        exact (List.Nodup.mem_erase_iff hnd).2 ⟨Ne.symm hne, hcov i h1 h2 h3⟩
    have hall' : ∀ i ∈ evIdx E, i ∉ R.erase j → isDone (listed.setIfInBounds j true) i = true := fun i h1 h2 => by
      rw [isDone_set hjl]
      by_cases hij : i = j
      · simp [hij]
      · have : i ∉ R := fun h => h2 ((List.Nodup.mem_erase_iff hnd).2 ⟨hij, h⟩)
        simp [hall i h1 this]
    have hlen : (R.erase j).length = m := by rw [List.length_erase_of_mem hjR]; omega
    have step := fun (a2 : Act) (W2 : World) (bs2 : Nat → Nat) (hx : Ext2 w W2) (hJ : EvInv E a0 w.heap.size (listed.setIfInBounds j true) bs2 a2 W2) =>
      wpE3_evs hsel hord hwt hE hok hfin m (R.erase j) (listed.setIfInBounds j true) a2 W2 bs2 hlen (hnd.erase _) (inv.set hj hjt) (done_set hD) hR' hcov' hall' hx hJ
    have hat : ∀ e ∈ E, isDone listed e.i = true → ∀ ob, e.lay = some ob → w.heap.size ≤ bs e.i ∧ W'.heap[bs e.i]? = some (e.now listed ob) := fun e he hd ob hl => by
      have h1 := J.at_ e he hd ob hl
      exact ⟨h1.1, by rw [hb.block _ (blk_lt' h1.2)]; exact h1.2⟩
    rw [evIdx, List.mem_append] at hjE
    rcases hjE with hjE | hjE
    · obtain ⟨e, he, rfl⟩ := List.mem_map.1 hjE
      obtain ⟨o, ho, hg, hdst, hrun⟩ := (hok e he).run
      have hnd' : isDone listed e.i = false := hjun
      have hex : execOp a.eval o = execOp a0.eval o := by
        rw [J.act]
        refine evs_exec (ops := ops) (fun cs b => Region.noSelect_spec hsel e.i o cs b ho) bs _ _ fun y hy => ?_
        have hyE := (List.mem_filter.1 hy)
        by_cases hye : y.i = e.i
        · rw [hye, hnd'] at hyE; cases hyE.2
        · exact hE.apart y hyE.1 e he hye o ho
      unfold wpOp
      simp only [ho]
      have hw : Region.wanted o (yielded ops a.tmps) = true := by simp [Region.wanted, hg]
      rw [if_pos hw]
      left
      unfold Oper.wp
      rw [hex, hrun]
      have hp : (E.filter fun x => isDone (listed.setIfInBounds e.i true) x.i).Perm ((E.filter fun x => isDone listed x.i) ++ [e]) := by
        have h1 : ∀ S : List Ev, e ∉ S → (∀ x ∈ S, x.i ≠ e.i) → (S.filter fun x => isDone (listed.setIfInBounds e.i true) x.i) = S.filter fun x => isDone listed x.i := fun S _ h2 => by
          refine List.filter_congr fun x hx => ?_
          rw [isDone_set hjl]; simp [h2 x hx]
        obtain ⟨A, B, rfl⟩ := List.append_of_mem he
        have hA : ∀ x ∈ A ++ B, x.i ≠ e.i := fun x hx hxe => by
          have h2 : ((A ++ e :: B).map (·.i)).Nodup := (List.nodup_append.1 hE.idx).1
          rw [List.map_append, List.map_cons, List.nodup_append] at h2
          rcases List.mem_append.1 hx with hx | hx
          · exact h2.2.2 x.i (List.mem_map_of_mem hx) e.i List.mem_cons_self hxe
          · exact (List.nodup_cons.1 h2.2.1).1 (by rw [← hxe]; exact List.mem_map_of_mem hx)
        rw [List.filter_append, List.filter_append, List.filter_cons, List.filter_cons]
        have e1 : isDone (listed.setIfInBounds e.i true) e.i = true := by rw [isDone_set hjl]; simp
        rw [if_pos e1, hnd', if_neg (by simp)]
        rw [List.filter_congr (l := A) (q := fun x => isDone listed x.i) (fun x hx => by rw [isDone_set hjl]; simp [hA x (List.mem_append_left _ hx)]), List.filter_congr (l := B) (q := fun x => isDone listed x.i) (fun x hx => by rw [isDone_set hjl]; simp [hA x (List.mem_append_right _ hx)])]
        refine List.Perm.trans (List.Perm.append_left _ (List.perm_append_singleton _ _).symm) ?_
        rw [List.append_assoc]
      have hds : ∀ x ∈ (E.filter fun x => isDone (listed.setIfInBounds e.i true) x.i), ∀ y ∈ (E.filter fun x => isDone (listed.setIfInBounds e.i true) x.i), x ≠ y → x.d ≠ y.d := fun x hx y hy hxy =>
        hE.ds x (List.mem_filter.1 hx).1 y (List.mem_filter.1 hy).1 (fun h => hxy (ev_unique hE.idx (List.mem_filter.1 hx).1 (List.mem_filter.1 hy).1 h))
      have hearly : ∀ x ∈ E, ∀ si ob', x.st = some (si, ob') → isDone (listed.setIfInBounds e.i true) si = true → isDone (listed.setIfInBounds e.i true) x.i = true := fun x hx si ob' hst hd => by
        rw [isDone_set hjl] at hd ⊢
        have : si ≠ e.i := st_not_i hE.idx hx he hst
        simp [this] at hd
        simp [J.early x hx si ob' hst hd]
      have hsi : ∀ x ∈ E, ∀ ob, x.now (listed.setIfInBounds e.i true) ob = x.now listed ob := fun x hx ob => by
        unfold Ev.now
        cases hst : x.st with
        | none => rfl
        | some p =>
          have : p.1 ≠ e.i := st_not_i hE.idx hx he (s := p.1) (o := p.2) hst
          simp only
          rw [getD_set_ne true (Ne.symm this)]
      unfold Ev.post
      cases hlay : e.lay with
      | none =>
        simp only
        rw [Oper.upon_value, hdst]
        refine ⟨hC, step _ _ bs hC ⟨?_, fun x hx hd ob hl => ?_, fun x hx y hy h1 h2 h3 h4 h5 => ?_, hearly⟩⟩
        · rw [evs_perm hp hds bs a0, List.foldl_append, List.foldl_cons, List.foldl_nil, ← J.act]
          unfold putEv
          rw [((hok e he).pure_ hlay).2 (bs e.i)]
        · rw [isDone_set hjl] at hd
          rw [hsi x hx]
          have hxe : x.i ≠ e.i := fun h => by rw [ev_unique hE.idx hx he h, hlay] at hl; cases hl
          exact hat x hx (by simpa [hxe] using hd) ob hl
        · rw [isDone_set hjl] at h1 h2
          have hxe : x.i ≠ e.i := fun h => by rw [ev_unique hE.idx hx he h, hlay] at h3; cases h3
          have hye : y.i ≠ e.i := fun h => by rw [ev_unique hE.idx hy he h, hlay] at h4; cases h4
          exact J.ne x hx y hy (by simpa [hxe] using h1) (by simpa [hye] using h2) h3 h4 h5
      | some ob0 =>
        simp only
        rw [Oper.upon_value, hdst]
        have hb2 := below_alloc' W' ob0
        have hC2 := Ext2.cr w _ _ hC hb2
        obtain ⟨bs2, e1, e2⟩ : ∃ bs2 : Nat → Nat, bs2 e.i = W'.heap.size ∧ ∀ k, k ≠ e.i → bs2 k = bs k := ⟨fun k => if k = e.i then W'.heap.size else bs k, by simp, fun k hk => by simp [hk]⟩
        refine ⟨hC2, step _ _ bs2 hC2 ⟨?_, fun x hx hd ob hl => ?_, fun x hx y hy h1 h2 h3 h4 h5 => ?_, hearly⟩⟩
        · rw [evs_perm hp hds bs2 a0, List.foldl_append, List.foldl_cons, List.foldl_nil, putEv, e1, evs_same (bs := bs) (bs' := bs2) (fun y hy => e2 _ (fun h => by
            have hy2 := (List.mem_filter.1 hy).2
            rw [h, hnd'] at hy2; cases hy2)), ← J.act]
        · rw [isDone_set hjl] at hd
          rw [hsi x hx]
          by_cases hxe : x.i = e.i
          · have hxe' := ev_unique hE.idx hx he hxe
            rw [hxe'] at hl ⊢
            rw [hlay] at hl; cases hl
            rw [e1]
            refine ⟨Ext2.size hC, ?_⟩
            have hnow : e.now listed ob0 = ob0 := by
              unfold Ev.now
              cases hst : e.st with
              | none => rfl
              | some p =>
                simp only
                rw [if_neg]
                intro h
                have := J.early e he p.1 p.2 hst h
                rw [hnd'] at this; cases this
            rw [hnow]
            exact World.alloc_heap_new W' ob0
          · rw [e2 _ hxe]
            have h6 := hat x hx (by simpa [hxe] using hd) ob hl
            exact ⟨h6.1, by rw [hb2.block _ (blk_lt' h6.2)]; exact h6.2⟩
        · rw [isDone_set hjl] at h1 h2
          have hlt : ∀ z ∈ E, z.i ≠ e.i → isDone listed z.i = true → z.lay.isSome = true → bs z.i < W'.heap.size := fun z hz hze hd hl => by
            obtain ⟨ob, hob⟩ := Option.isSome_iff_exists.1 hl
            exact blk_lt' (hat z hz hd ob hob).2
          by_cases hxe : x.i = e.i
          · have hye : y.i ≠ e.i := fun h => h5 (hxe.trans h.symm)
            have := hlt y hy hye (by simpa [hye] using h2) h4
            rw [hxe, e1, e2 _ hye]; omega
          · by_cases hye : y.i = e.i
            · have := hlt x hx hxe (by simpa [hxe] using h1) h3
              rw [hye, e1, e2 _ hxe]; omega
            · rw [e2 _ hxe, e2 _ hye]
              exact J.ne x hx y hy (by simpa [hxe] using h1) (by simpa [hye] using h2) h3 h4 h5
    · obtain ⟨e, he, hst0⟩ := List.mem_filterMap.1 hjE
      obtain ⟨⟨si, ob'⟩, hst, rfl⟩ := Option.map_eq_some_iff.1 hst0
      clear hst0
      obtain ⟨o, ob, hlay, ho, hg, hdst, hrun⟩ := (hok e he).put si ob' hst
      simp only at *
      have hde : isDone listed e.i = true := by
        obtain ⟨o', ho', ed, hed, hbd, hon⟩ := hE.after e he si ob' hst
        rw [hoj] at ho'; cases ho'
        have h1 := hpre ed hed hbd
        rw [hon] at h1
        unfold isDone
        cases hq : listed.getD e.i true with
        | true => rfl
        | false => rw [getD_both hq] at h1; cases h1
      have hsj : si ≠ e.i := st_not_i hE.idx he he hst
      have hblk := hat e he hde ob hlay
      have hnow : e.now listed ob = ob := by
        unfold Ev.now; rw [hst]; simp only; rw [if_neg]; rw [hjun]; simp
      rw [hnow] at hblk
      have hex : execOp a.eval o = execOp (a0.put (some e.d) (e.val (bs e.i))).eval o := by
        rw [J.act]
        have hmem : e ∈ E.filter fun x => isDone listed x.i := List.mem_filter.2 ⟨he, hde⟩
        rw [evs_perm (List.perm_cons_erase hmem) (fun x hx y hy hxy => hE.ds x (List.mem_filter.1 hx).1 y (List.mem_filter.1 hy).1 (fun h => hxy (ev_unique hE.idx (List.mem_filter.1 hx).1 (List.mem_filter.1 hy).1 h))) bs a0, List.foldl_cons]
        refine (evs_exec (ops := ops) (fun cs b => Region.noSelect_spec hsel si o cs b ho) bs _ _ fun y hy => ?_).trans rfl
        have hy1 := List.mem_of_mem_erase hy
        have hyE := (List.mem_filter.1 hy1).1
        refine hE.st y hyE e he (fun h => ?_) si ob' hst o ho
        have hye := ev_unique hE.idx hyE he h
        rw [hye] at hy
        have hnodup : (E.filter fun x => isDone listed x.i).Nodup := by
          have h2 : E.Nodup := by
            have h3 : (E.map (·.i)).Nodup := (List.nodup_append.1 hE.idx).1
            exact List.Pairwise.imp (fun {x y} (h : x.i ≠ y.i) e => h (by rw [e])) (List.pairwise_map.1 h3)
          exact h2.filter _
        exact ((List.Nodup.mem_erase_iff hnodup).1 hy).1 rfl
      obtain ⟨W2, hr2, ht⟩ := hrun (bs e.i) W' hblk.2
      unfold wpOp
      simp only [ho]
      have hw : Region.wanted o (yielded ops a.tmps) = true := by simp [Region.wanted, hg]
      rw [if_pos hw]
      left
      unfold Oper.wp
      rw [hex, hr2, Oper.upon_skip, hdst]
      have hC2 : Ext2 w W2 := ht.below hC hblk.1
      refine ⟨hC2, step _ _ bs hC2 ⟨?_, fun x hx hd ob1 hl => ?_, fun x hx y hy h1 h2 h3 h4 h5 => ?_, fun x hx si' ob1 hst' hd => ?_⟩⟩
      · show a = _
        rw [J.act]
        congr 1
        refine List.filter_congr fun x hx => ?_
        rw [isDone_set hjl]; simp [Ne.symm (st_not_i hE.idx he hx hst)]
      · rw [isDone_set hjl] at hd
        have hxs : x.i ≠ si := Ne.symm (st_not_i hE.idx he hx hst)
        have hd' : isDone listed x.i = true := by simpa [hxs] using hd
        have h6 := hat x hx hd' ob1 hl
        by_cases hxe : x.i = e.i
        · have hxe' := ev_unique hE.idx hx he hxe
          rw [hxe'] at hl ⊢
          refine ⟨hblk.1, ?_⟩
          rw [ht.at_]
          unfold Ev.now
          rw [hst]
          simp [hjl]
        · refine ⟨h6.1, ?_⟩
          have hne := J.ne x hx e he hd' hde (by rw [hl]; rfl) (by rw [hlay]; rfl) hxe
          rw [ht.other _ hne, h6.2]
          unfold Ev.now
          cases hsx : x.st with
          | none => rfl
          | some p =>
            have : p.1 ≠ si := fun h => hxe (by rw [st_unique hE.idx (o := p.2) (o' := ob') hx he (by rw [hsx, ← h]) hst])
            simp only
            rw [getD_set_ne true (Ne.symm this)]
      · rw [isDone_set hjl] at h1 h2
        have hxs : x.i ≠ si := Ne.symm (st_not_i hE.idx he hx hst)
        have hys : y.i ≠ si := Ne.symm (st_not_i hE.idx he hy hst)
        exact J.ne x hx y hy (by simpa [hxs] using h1) (by simpa [hys] using h2) h3 h4 h5
      · rw [isDone_set hjl] at hd ⊢
        by_cases h7 : si' = si
        · subst h7
          have hxe := st_unique hE.idx hx he hst' hst
          rw [hxe, hde]; simp
        · have : isDone listed si' = true := by simpa [h7] using hd
          simp [J.early x hx si' ob1 hst' this]
/-! The law. -/
abbrev Key := Nat × Nat × Option Nat
def Ev.key (e : Ev) : Key := (e.i, e.d, e.st.map (·.1))
def keyIdx (ks : List Key) : List Nat := ks.map (·.1) ++ ks.filterMap (·.2.2)
def evWellB (ops : Array Oper) (ks : List Key) : Bool :=
  decide (keyIdx ks).Nodup &&
  ks.all (fun x => ks.all fun y => x.1 == y.1 || (x.2.1 != y.2.1 && (match ops[y.1]? with | some o => !(o.looksAt ops).contains x.2.1 | none => true) &&
    (match y.2.2 with | some si => (match ops[si]? with | some o => !(o.looksAt ops).contains x.2.1 | none => true) | none => true))) &&
  ks.all (fun x => (match ops[x.1]? with | some o => !(o.looksAt ops).contains x.2.1 | none => true) &&
    (match x.2.2 with | some si => (match ops[si]? with | some o => o.after.any (fun e => Region.binds .any e && e.on == x.1) | none => false) | none => true))
theorem keyIdx_map (E : List Ev) : keyIdx (E.map Ev.key) = evIdx E := by
  unfold keyIdx evIdx
  rw [List.map_map, List.filterMap_map]; rfl
theorem evWell {E : List Ev} (h : evWellB ops (E.map Ev.key) = true) : EvWell ops E := by
  simp only [evWellB, Bool.and_eq_true, decide_eq_true_eq, keyIdx_map] at h
  obtain ⟨⟨h1, h2⟩, h3⟩ := h
  have two : ∀ x ∈ E, ∀ y ∈ E, x.i ≠ y.i → x.d ≠ y.d ∧ (∀ o, ops[y.i]? = some o → x.d ∉ o.looksAt ops) ∧ ∀ si ob', y.st = some (si, ob') → ∀ o, ops[si]? = some o → x.d ∉ o.looksAt ops := fun x hx y hy hxy => by
    have h4 := List.all_eq_true.1 (List.all_eq_true.1 h2 x.key (List.mem_map_of_mem hx)) y.key (List.mem_map_of_mem hy)
    simp only [Ev.key, Bool.or_eq_true, beq_iff_eq, hxy, false_or, Bool.and_eq_true, bne_iff_ne] at h4
    obtain ⟨⟨h5, h6⟩, h7⟩ := h4
    refine ⟨h5, fun o ho => ?_, fun si ob' hst o ho => ?_⟩
    · rw [ho] at h6; simpa using h6
    · rw [hst] at h7; simp only [Option.map_some] at h7; rw [ho] at h7; simpa using h7
  have one : ∀ x ∈ E, (∀ o, ops[x.i]? = some o → x.d ∉ o.looksAt ops) ∧ ∀ si ob', x.st = some (si, ob') → ∃ o, ops[si]? = some o ∧ ∃ e ∈ o.after, Region.binds .any e = true ∧ e.on = x.i := fun x hx => by
    have h4 := List.all_eq_true.1 h3 x.key (List.mem_map_of_mem hx)
    simp only [Ev.key, Bool.and_eq_true] at h4
    refine ⟨fun o ho => ?_, fun si ob' hst => ?_⟩
    · have := h4.1; rw [ho] at this; simpa using this
    · have h5 := h4.2
      rw [hst] at h5; simp only [Option.map_some] at h5
      cases ho : ops[si]? with
      | none => rw [ho] at h5; cases h5
      | some o =>
        rw [ho] at h5
        obtain ⟨e, he, hb⟩ := Array.any_eq_true'.1 h5
        simp only [Bool.and_eq_true, beq_iff_eq] at hb
        exact ⟨o, rfl, e, he, hb.1, hb.2⟩
  exact ⟨h1, fun x hx y hy hxy => (two x hx y hy hxy).2.1, fun x hx y hy hxy => (two x hx y hy hxy).1, fun x hx y hy hxy => (two x hx y hy hxy).2.2, fun x hx => (one x hx).1, fun x hx => (one x hx).2⟩
def planEB (ops : Array Oper) (fs hs : List Nat) (ks : List Key) (ts : List Nat) : Bool :=
  Region.noSelect ops && orderedB .any ops && decide (fs.length + (hs.length + ((keyIdx ks).length + ts.length)) = ops.size) && (fs ++ hs ++ keyIdx ks ++ ts).all (fun i => decide (i < ops.size)) && (List.range ops.size).all (fun i => (fs ++ hs ++ keyIdx ks ++ ts).contains i) &&
  takes3B .any ops (fun i => ts.contains i) fs (Array.replicate ops.size false) &&
  waitsB .any ops (fun i => fs.contains i) (fun i => ts.contains i) &&
  takes3B .any ops (fun i => ts.contains i) hs (markAll fs (Array.replicate ops.size false)) &&
  evWellB ops ks && (keyIdx ks).all (fun i => !ts.contains i && !(fs ++ hs).contains i) &&
  seqLB .any ops ts (markAll (keyIdx ks) (markAll hs (markAll fs (Array.replicate ops.size false))))
/-- What is owed behind the reads: what is laid and filled, then the tail. -/
def Events (P : Program) (l : List Oper) (Q : Exit → Act → World → Prop) (w : World) (ks : List Key) (ts : List Nat) (a2 : Act) : Prop :=
  ∃ E : List Ev, E.map Ev.key = ks ∧ (∀ e ∈ E, EvOk P l.toArray a2 e) ∧ ∀ (bs : Nat → Nat) W', EvBlocks bs w.heap.size E W' → Ext2 w W' → wpList P l.toArray Q (picks l ts) (E.foldl (putEv bs) a2) W'
theorem marked_size (is : List Nat) : ∀ l : Array Bool, (markAll is l).size = l.size := by
  induction is with
  | nil => intro l; rfl
  | cons i is ih => intro l; rw [markAll, ih]; simp
theorem marks_eq {l1 l2 : Array Bool} (hs : l1.size = l2.size) (h : ∀ i, i < l1.size → (l1.getD i true = true ↔ l2.getD i true = true)) : l1 = l2 := by
  refine Array.ext hs fun i h1 h2 => ?_
  have h3 := h i h1
  simp only [Array.getD, h1, h2, dite_true] at h3
  cases ha : l1[i] <;> cases hb : l2[i] <;> simp_all
theorem wpAny_ev (fs hs : List Nat) (ks : List Key) (ts : List Nat) {l : List Oper} {a : Act} {w : World} (hB : planEB l.toArray fs hs ks ts = true)
    (hQ : ∀ c a (d : Option Tmp) v w, Q (.panic c) (a.put d v) w → Q (.panic c) a w)
    (h : wpQ0 P l.toArray (fun a1 => wpQ2 P l.toArray (Ext2 w) (Events P l Q w ks ts) (picks l hs) a1) (picks l fs) a) :
    wpAny P .any l.toArray Q l.toArray.size (Array.replicate l.toArray.size false) a w.drew := by
  simp only [planEB, Bool.and_eq_true, decide_eq_true_eq] at hB
  obtain ⟨⟨⟨⟨⟨⟨⟨⟨⟨⟨hns, hord⟩, hlen⟩, hlt⟩, hcov⟩, hfs⟩, hwt⟩, hhs⟩, hwell⟩, hks⟩, hts⟩ := hB
  have hlt' : ∀ i ∈ fs ++ hs ++ keyIdx ks ++ ts, i < l.length := fun i hi => by
    have := List.all_eq_true.1 hlt i hi
    simpa using this
  suffices key : wpAny P .any l.toArray Q (fs.length + (hs.length + ((keyIdx ks).length + ts.length))) (Array.replicate l.toArray.size false) a w.drew by rwa [hlen] at key
  refine wpAny_floats (tl := fun i => ts.contains i) hns hQ fs (picks l fs) _ a (picks_map fun i hi => hlt' i (by simp [hi])) (HInv.start _) hfs ?_
  have mono0 : ∀ (qs : List Oper) (a : Act) {K K' : Act → Prop}, (∀ a, K a → K' a) → wpQ0 P l.toArray K qs a → wpQ0 P l.toArray K' qs a := by
    intro qs
    induction qs with
    | nil => intro a K K' hk h; exact hk _ h
    | cons o qs ih =>
      intro a K K' hk h
      simp only [wpQ0] at h ⊢
      split
      · rename_i hw; rw [if_pos hw] at h; obtain ⟨v, h1, h2⟩ := h; exact ⟨v, h1, ih _ hk h2⟩
      · rename_i hw; rw [if_neg hw] at h; exact ih _ hk h
  refine mono0 _ _ (fun a1 h1 inv1 => ?_) h
  have hD1 : ∀ i, (fun i => fs.contains i) i = true → (markAll fs (Array.replicate l.toArray.size false)).getD i true = true := fun i hi => (mark_in _ _ _).2 (.inl (by simpa using hi))
  have hE : wpE3 P .any l.toArray Q (Ext2 w) (fun i => ts.contains i) (fun listed a W => seqLB .any l.toArray ts listed = true ∧ wpList P l.toArray Q (picks l ts) a W) (hs.length + (keyIdx ks).length) (markAll fs (Array.replicate l.toArray.size false)) a1 w := by
    refine wpE3_takes (D := fun i => fs.contains i) (Ext2.cr w) hns (waits3 hwt) hQ (fun listed a W hL j hj => ?_) hs (picks l hs) _ a1 (picks_map fun i hi => hlt' i (by simp [hi])) inv1 hD1 hhs ?_
    · have h3 := hL.1
      cases ts with
      | nil => simp only [seqLB, List.isEmpty_iff] at h3; rw [h3] at hj; cases hj
      | cons k ts =>
        simp only [seqLB, Bool.and_eq_true, decide_eq_true_eq] at h3
        rw [h3.1] at hj
        simp at hj; simp [hj]
    · refine wpQ2_mono _ _ (fun a2 h2 inv2 => ?_) h1
      obtain ⟨E, rfl, hok, h2⟩ := h2
      have hE := evWell hwell
      rw [keyIdx_map] at hlen hlt hcov hks hts ⊢
      have hun : ∀ i, i ∈ evIdx E → (markAll hs (markAll fs (Array.replicate l.toArray.size false))).getD i true = false := fun i hi => by
        have h3 := List.all_eq_true.1 hks i hi
        simp only [Bool.and_eq_true, Bool.not_eq_true'] at h3
        cases h4 : (markAll hs (markAll fs (Array.replicate l.toArray.size false))).getD i true with
        | false => rfl
        | true =>
          rw [mark_in, mark_in] at h4
          have h5 : ¬ i ∈ fs ++ hs := by simpa using h3.2
          rw [List.mem_append] at h5
          rcases h4 with h4 | h4 | h4
          · exact absurd (.inr h4) h5
          · exact absurd (.inl h4) h5
          · have hi2 := List.all_eq_true.1 hlt i (by simp [hi])
            have hi3 : i < l.length := by simpa using hi2
            simp [hi3] at h4
      refine wpE3_evs (D := fun i => fs.contains i) (L := fun listed a W => seqLB .any l.toArray ts listed = true ∧ wpList P l.toArray Q (picks l ts) a W) hns hord (waits3 hwt) hE hok (fun bs W' hb hx listed h3 h4 => ?_) (evIdx E).length (evIdx E) _ a2 w (fun _ => 0) rfl hE.idx inv2 (fun i hi => (mark_in _ _ _).2 (.inr (hD1 i hi)))
        (fun i hi => ⟨hi, ?_, hun i hi⟩) (fun i h3 h4 h5 => ?_) (fun i h3 h4 => absurd h3 h4) (Below.refl _ _) ⟨?_, fun e he hd => ?_, fun e he f hf hd => ?_, fun e he si ob' hst hd => ?_⟩
      · refine ⟨?_, h2 bs W' hb hx⟩
        have : listed = markAll (evIdx E) (markAll hs (markAll fs (Array.replicate l.toArray.size false))) := by
          refine marks_eq (by rw [h4.size, marked_size, marked_size, marked_size]; simp) fun i hi => ?_
          rw [h4.size] at hi
          have h6 := List.all_eq_true.1 hcov i (List.mem_range.2 hi)
          have h7 : i ∈ fs ++ hs ++ evIdx E ++ ts := by simpa using h6
          rw [mark_in, mark_in, mark_in]
          cases ht : ts.contains i with
          | true =>
            have h8 := h4.tail i ht hi
            rw [h8]
            have h9 : (markAll (evIdx E) (markAll hs (markAll fs (Array.replicate l.toArray.size false)))).getD i true = false := by
              cases ts with
              | nil => cases ht
              | cons k ts' =>
                -- the tail is to come: else it were not the tail of the plan
                cases hq : (markAll (evIdx E) (markAll hs (markAll fs (Array.replicate l.toArray.size false)))).getD i true with
                | false => rfl
                | true =>
                  rw [mark_in, mark_in, mark_in] at hq
                  rcases hq with hq | hq | hq | hq
                  · have h3' := List.all_eq_true.1 hks i hq
                    simp only [Bool.and_eq_true, Bool.not_eq_true'] at h3'
                    rw [h3'.1] at ht; cases ht
                  · have := inv2.tail i ht hi
                    have h10 : (markAll hs (markAll fs (Array.replicate l.toArray.size false))).getD i true = true := (mark_in _ _ _).2 (.inl hq)
                    rw [this] at h10; cases h10
                  · have := inv1.tail i ht hi
                    have h10 : (markAll fs (Array.replicate l.toArray.size false)).getD i true = true := (mark_in _ _ _).2 (.inl hq)
                    rw [this] at h10; cases h10
                  · have hi3 : i < l.length := by simpa using hi
                    simp [hi3] at hq
            constructor
            · intro h; cases h
            · intro h
              have h10 : (markAll (evIdx E) (markAll hs (markAll fs (Array.replicate l.toArray.size false)))).getD i true = true := by rw [mark_in, mark_in, mark_in]; exact h
              rw [h9] at h10; cases h10
          | false =>
            rw [h3 i hi ht]
            simp only [List.mem_append] at h7
            constructor
            · intro _
              rcases h7 with ((h7 | h7) | h7) | h7
              · exact .inr (.inr (.inl h7))
              · exact .inr (.inl h7)
              · exact .inl h7
              · have : ts.contains i = true := by simpa using h7
                rw [this] at ht; cases ht
            · intro _; rfl
        rw [this]; exact hts
      · have h3 := List.all_eq_true.1 hks i hi
        simp only [Bool.and_eq_true, Bool.not_eq_true'] at h3
        exact h3.1
      · have h6 := List.all_eq_true.1 hcov i (List.mem_range.2 h3)
        have h7 : i ∈ fs ++ hs ++ evIdx E ++ ts := by simpa using h6
        have h8 : ¬ (markAll hs (markAll fs (Array.replicate l.toArray.size false))).getD i true = true := by rw [h5]; simp
        rw [mark_in, mark_in] at h8
        simp only [List.mem_append] at h7
        rcases h7 with ((h7 | h7) | h7) | h7
        · exact absurd (.inr (.inl h7)) h8
        · exact absurd (.inl h7) h8
        · exact h7
        · have : ts.contains i = true := by simpa using h7
          rw [this] at h4; cases h4
      · have : (E.filter fun e => isDone (markAll hs (markAll fs (Array.replicate l.toArray.size false))) e.i) = [] := List.filter_eq_nil_iff.2 fun e he => by
          have := hun e.i (List.mem_append_left _ (List.mem_map_of_mem he))
          unfold isDone; rw [this]; simp
        rw [this]; rfl
      · have := hun e.i (List.mem_append_left _ (List.mem_map_of_mem he))
        unfold isDone at hd; rw [this] at hd; cases hd
      · have := hun e.i (List.mem_append_left _ (List.mem_map_of_mem he))
        unfold isDone at hd; rw [this] at hd; cases hd
      · have := hun si (List.mem_append_right _ (List.mem_filterMap.2 ⟨e, he, by rw [hst]; rfl⟩))
        unfold isDone at hd; rw [this] at hd; cases hd
  have := wpAny_of_wpE3 (g := ts.length) (fun listed a W hL => wpAny_of_seqL ts (picks l ts) listed a W (picks_map fun i hi => hlt' i (by simp [hi])) hL.1 hL.2) (hs.length + (keyIdx ks).length) _ a1 w.drew (Ext2.drew w) (hE.later (Ext2.drew w))
  rwa [Nat.add_assoc] at this
theorem region_ev (fs hs : List Nat) (ks : List Key) (ts : List Nat) {id : Nat} {l : List Oper} {a : Act} {w : World} (hm : P.follows .mixedOrders = true) (hB : planEB l.toArray fs hs ks ts = true)
    (hQ : ∀ c a (d : Option Tmp) v w, Q (.panic c) (a.put d v) w → Q (.panic c) a w)
    (h : wpQ0 P l.toArray (fun a1 => wpQ2 P l.toArray (Ext2 w) (Events P l Q w ks ts) (picks l hs) a1) (picks l fs) a) :
    (Code.region id l.toArray true).wp P Q a w := wp_region_any hm (wpAny_ev fs hs ks ts hB hQ h)
theorem round_region_ev {l0 m : Nat} (fs hs : List Nat) (ks : List Key) (ts : List Nat) {id : Nat} {l : List Oper} {a : Act} {w : World} (hn : noDefers l.toArray = true) (hq : ¬ LetsOut Q) (hm : P.follows .mixedOrders = true) (hB : planEB l.toArray fs hs ks ts = true)
    (hQ : ∀ c a (d : Option Tmp) v w, Q (.panic c) (a.put d v) w → Q (.panic c) a w)
    (h : wpQ0 P l.toArray (fun a1 => wpQ2 P l.toArray (Ext2 w) (Events P l Q w ks ts) (picks l hs) a1) (picks l fs) a) :
    (Code.region id l.toArray true).wpIn (Fence.wide.inRound l0) m P Q a w := round_region_any hn hq hm (wpAny_ev fs hs ks ts hB hQ h)
theorem Events.none_ {l : List Oper} {w : World} {ts : List Nat} {a2 : Act} (h : ∀ W', Ext2 w W' → wpList P l.toArray Q (picks l ts) a2 W') : Events P l Q w [] ts a2 :=
  ⟨[], rfl, fun e he => (by cases he), fun _ W' _ hg => h W' hg⟩
theorem Events.lay1 {l : List Oper} {w : World} {ts : List Nat} {a2 : Act} {i d : Nat} (val : Nat → Value) (ob : Obj)
    (hal : ∃ o : Oper, l.toArray[i]? = some o ∧ o.guard = none ∧ o.dst = some d ∧ ∀ W : World, (execOp a2.eval o).run P W = .ok (.value (val W.heap.size)) (W.alloc ob))
    (h : ∀ b W', w.heap.size ≤ b → Ext2 w W' → W'.heap[b]? = some ob → wpList P l.toArray Q (picks l ts) (a2.put (some d) (val b)) W') : Events P l Q w [(i, d, none)] ts a2 :=
  ⟨[⟨i, d, val, some ob, none⟩], rfl, fun e he => (by
    rcases List.mem_cons.1 he with rfl | he
    · exact ⟨hal, fun h => (by cases h), fun _ _ h => (by cases h)⟩
    · cases he), fun bs W' hn hg => by
    have := hn.at_ _ List.mem_cons_self ob rfl
    exact h (bs i) W' this.1 hg this.2⟩
theorem Events.fill1 {l : List Oper} {w : World} {ts : List Nat} {a2 : Act} {i d si : Nat} (val : Nat → Value) (ob ob' : Obj)
    (hal : ∃ o : Oper, l.toArray[i]? = some o ∧ o.guard = none ∧ o.dst = some d ∧ ∀ W : World, (execOp a2.eval o).run P W = .ok (.value (val W.heap.size)) (W.alloc ob))
    (hput : ∃ o : Oper, l.toArray[si]? = some o ∧ o.guard = none ∧ o.dst = none ∧ ∀ b W, W.heap[b]? = some ob → ∃ W2, (execOp (a2.put (some d) (val b)).eval o).run P W = .ok .skip W2 ∧ Turn b ob' W W2)
    (h : ∀ b W', w.heap.size ≤ b → Ext2 w W' → W'.heap[b]? = some ob' → wpList P l.toArray Q (picks l ts) (a2.put (some d) (val b)) W') : Events P l Q w [(i, d, some si)] ts a2 :=
  ⟨[⟨i, d, val, some ob, some (si, ob')⟩], rfl, fun e he => (by
    rcases List.mem_cons.1 he with rfl | he
    · refine ⟨hal, fun h => (by cases h), fun s o h => ?_⟩
      cases h
      obtain ⟨o, h1, h2, h3, h4⟩ := hput
      exact ⟨o, ob, rfl, h1, h2, h3, h4⟩
    · cases he), fun bs W' hn hg => by
    have := hn.at_ _ List.mem_cons_self ob rfl
    exact h (bs i) W' this.1 hg this.2⟩
theorem Events.fill2 {l : List Oper} {w : World} {ts : List Nat} {a2 : Act} {i d si : Nat} (val : Nat → Value) (ob ob' : Obj) {i2 d2 si2 : Nat} (val2 : Nat → Value) (ob2 ob2' : Obj)
    (hal : ∃ o : Oper, l.toArray[i]? = some o ∧ o.guard = none ∧ o.dst = some d ∧ ∀ W : World, (execOp a2.eval o).run P W = .ok (.value (val W.heap.size)) (W.alloc ob))
    (hput : ∃ o : Oper, l.toArray[si]? = some o ∧ o.guard = none ∧ o.dst = none ∧ ∀ b W, W.heap[b]? = some ob → ∃ W2, (execOp (a2.put (some d) (val b)).eval o).run P W = .ok .skip W2 ∧ Turn b ob' W W2)
    (hal2 : ∃ o : Oper, l.toArray[i2]? = some o ∧ o.guard = none ∧ o.dst = some d2 ∧ ∀ W : World, (execOp a2.eval o).run P W = .ok (.value (val2 W.heap.size)) (W.alloc ob2))
    (hput2 : ∃ o : Oper, l.toArray[si2]? = some o ∧ o.guard = none ∧ o.dst = none ∧ ∀ b W, W.heap[b]? = some ob2 → ∃ W2, (execOp (a2.put (some d2) (val2 b)).eval o).run P W = .ok .skip W2 ∧ Turn b ob2' W W2)
    (hne : i ≠ i2)
    (h : ∀ b b2 W', w.heap.size ≤ b → w.heap.size ≤ b2 → b ≠ b2 → Ext2 w W' → W'.heap[b]? = some ob' → W'.heap[b2]? = some ob2' → wpList P l.toArray Q (picks l ts) ((a2.put (some d) (val b)).put (some d2) (val2 b2)) W') : Events P l Q w [(i, d, some si), (i2, d2, some si2)] ts a2 :=
  ⟨[⟨i, d, val, some ob, some (si, ob')⟩, ⟨i2, d2, val2, some ob2, some (si2, ob2')⟩], rfl, fun e he => (by
    rcases List.mem_cons.1 he with rfl | he
    · refine ⟨hal, fun h => (by cases h), fun s o h => ?_⟩
      cases h
      obtain ⟨o, h1, h2, h3, h4⟩ := hput
      exact ⟨o, ob, rfl, h1, h2, h3, h4⟩
    · rcases List.mem_cons.1 he with rfl | he
      · refine ⟨hal2, fun h => (by cases h), fun s o h => ?_⟩
        cases h
        obtain ⟨o, h1, h2, h3, h4⟩ := hput2
        exact ⟨o, ob2, rfl, h1, h2, h3, h4⟩
      · cases he), fun bs W' hn hg => by
    have h1 := hn.at_ _ List.mem_cons_self ob rfl
    have h2 := hn.at_ _ (List.mem_cons_of_mem _ List.mem_cons_self) ob2 rfl
    exact h (bs i) (bs i2) W' h1.1 h2.1 (hn.ne _ List.mem_cons_self _ (List.mem_cons_of_mem _ List.mem_cons_self) rfl rfl hne) hg h1.2 h2.2⟩
end
end Go.Proofs.YtapeakbngligaaaGreatDoor
namespace Go.Proofs.YtapeakbngligaaaGreatDoor
open Go.RowKit
set_option linter.unusedVariables false
set_option linter.unusedSimpArgs false
section
variable {P : Program} {md : Region.Mode} {ops : Array Oper} {Q : Exit → Act → World → Prop} {C S : World → Prop} {D tl : Nat → Bool} {L : Array Bool → Act → World → Prop}
def wpQS (P : Program) (ops : Array Oper) (S : World → Prop) (K : Act → Prop) : List Oper → Act → Prop
  | [], a => K a
  | o :: rest, a => if Region.wanted o (yielded ops a.tmps) = true then ∃ v, (∀ x : Cls S, FirstUpon v x.1 ((execOp a.eval o).run P x.1)) ∧ wpQS P ops S K rest (a.put o.dst v) else wpQS P ops S K rest (a.put o.dst undef)
theorem wpQS_nil {K : Act → Prop} {a : Act} (h : K a) : wpQS P ops S K [] a := h
theorem wpQS_step {K : Act → Prop} {a : Act} {o : Oper} {rest : List Oper}
    (h : ∀ K' : Act → Prop, (∀ a, wpQS P ops S K rest a → K' a) → if Region.wanted o (yielded ops a.tmps) = true then ∃ v, (∀ x : Cls S, FirstUpon v x.1 ((execOp a.eval o).run P x.1)) ∧ K' (a.put o.dst v) else K' (a.put o.dst undef)) : wpQS P ops S K (o :: rest) a :=
  h _ (fun _ h => h)
theorem wpAnyH_neutral (hs : Region.noSelect ops = true) (hQ : ∀ c a (d : Option Tmp) v w, Q (.panic c) (a.put d v) w → Q (.panic c) a w) {f : Nat} {W : World} (hS : S W) :
    ∀ (is : List Nat) (l : List Oper) (listed : Array Bool) (a : Act), is.map (fun i => ops[i]?) = l.map some → HInv md ops tl listed → takes3B md ops tl is listed = true →
      wpQS P ops S (fun a' => HInv md ops tl (markAll is listed) → wpAnyH P md ops Q S f (markAll is listed) a' W) l a → wpAnyH P md ops Q S (is.length + f) listed a W
  | [], [], listed, a, _, inv, _, h => by rw [List.length_nil, Nat.zero_add]; exact h inv
  | [], _ :: _, _, _, hm, _, _, _ => by cases hm
  | _ :: _, [], _, _, hm, _, _, _ => by cases hm
  | i :: is, o :: l, listed, a, hm, inv, hB, h => by
    simp only [List.map_cons, List.cons.injEq] at hm
    simp only [takes3B, Bool.and_eq_true, Bool.not_eq_true'] at hB
    obtain ⟨⟨⟨hin, hr⟩, hf⟩, hB'⟩ := hB
    have hr' : i ∈ Region.ready md ops listed := by simpa using hr
    have hy : ∃ v, YieldsIf P ops S o v a ∧ wpQS P ops S (fun a' => HInv md ops tl (markAll (i :: is) listed) → wpAnyH P md ops Q S f (markAll (i :: is) listed) a' W) l (a.put o.dst v) := by
      simp only [wpQS] at h
      by_cases hw : Region.wanted o (yielded ops a.tmps) = true
      · rw [if_pos hw] at h
        obtain ⟨v, h1, h2⟩ := h
        exact ⟨v, .inl ⟨hw, fun W hW => firstUpon_eq (h1 ⟨W, hW⟩)⟩, h2⟩
      · rw [if_neg hw] at h
        exact ⟨undef, .inr ⟨by simpa using hw, rfl⟩, h⟩
    obtain ⟨v, hy, hK⟩ := hy
    rw [List.length_cons, show is.length + 1 + f = (is.length + f) + 1 by omega]
    exact wpAnyH_take hm.1 hs hf (by simpa using hr) (fun c a w => hQ c a _ v w) hy hS (wpAnyH_neutral hs hQ hS is l _ _ hm.2 (inv.set hr' hin) hB' hK)
theorem wpAnyH_of_wpE3 {g : Nat} (hCS : ∀ W, C W → S W) (hL : ∀ listed a W, L listed a W → wpAnyH P md ops Q S g listed a W) : ∀ (f : Nat) (listed : Array Bool) (a : Act) (W : World), C W → wpE3 P md ops Q C tl L f listed a W → wpAnyH P md ops Q S (f + g) listed a W
  | 0, listed, a, W, hC, h => by rw [Nat.zero_add]; exact hL _ _ _ (h W (Below.refl _ _) hC)
  | f + 1, listed, a, W, hC, h => by
    rw [show f + 1 + g = (f + g) + 1 by omega]
    obtain ⟨h1, h2⟩ := h W (Below.refl _ _) hC
    exact ⟨fun h0 => absurd h0 h1, fun i hi => wpOp_mono (fun a' w' h' => ⟨hCS _ h'.1, wpAnyH_of_wpE3 hCS hL f _ a' w' h'.1 h'.2⟩) (h2 i hi).2⟩
def wpListH (P : Program) (ops : Array Oper) (Q : Exit → Act → World → Prop) (S : World → Prop) : List Oper → Act → World → Prop
  | [], a, w => Q .normal a w
  | o :: rest, a, w => wpList P ops (Exit.then (fun a' w' => S w' ∧ wpListH P ops Q S rest a' w') Q) [o] a w
theorem wpListH_cons {o : Oper} {rest : List Oper} {a : Act} {w : World} (h : wpList P ops (Exit.then (fun a' w' => S w' ∧ wpListH P ops Q S rest a' w') Q) [o] a w) : wpListH P ops Q S (o :: rest) a w := h
theorem wpListH_nil {a : Act} {w : World} (h : Q .normal a w) : wpListH P ops Q S [] a w := h
theorem wpOp_then {i : Nat} {o : Oper} (hi : ops[i]? = some o) {K : Act → World → Prop} {a : Act} {w : World} (h : wpList P ops (Exit.then K Q) [o] a w) : wpOp P ops Q i K a w := by
  have h' : wpOp P ops (Exit.then K Q) i (fun a w => K a w) a w := by unfold wpOp; simp only [hi]; exact h
  unfold wpOp at h' ⊢
  simp only [hi] at h' ⊢
  split
  · rename_i hw
    rw [if_pos hw] at h'
    rcases h' with h' | h'
    · left
      unfold Oper.wp Oper.upon at h' ⊢
      generalize (execOp a.eval o).run P w = r at *
      cases r with
      | halt x w' => cases x <;> exact h'
      | ok x w' =>
        cases x <;> first
          | exact h'
          | (refine Calls.mono h' ?_; intro e w'' he; cases e <;> first | exact he | skip)
    · exact .inr ⟨h'.1, h'.2⟩
  · rename_i hw; rw [if_neg hw] at h'; exact h'
theorem wpAnyH_of_seqL : ∀ (ts : List Nat) (l : List Oper) (listed : Array Bool) (a : Act) (w : World), ts.map (fun i => ops[i]?) = l.map some →
    seqLB md ops ts listed = true → wpListH P ops Q S l a w → wpAnyH P md ops Q S ts.length listed a w
  | [], [], _, _, _, _, hB, h => ⟨by simpa [seqLB] using hB, h⟩
  | [], _ :: _, _, _, _, hm, _, _ => by cases hm
  | _ :: _, [], _, _, _, hm, _, _ => by cases hm
  | k :: ts, o :: l, listed, a, w, hm, hB, h => by
    simp only [List.map_cons, List.cons.injEq] at hm
    simp only [List.length_cons, seqLB, Bool.and_eq_true, decide_eq_true_eq] at hB
    refine ⟨fun h1 => (by rw [hB.1] at h1; cases h1), fun i hi => ?_⟩
    rw [hB.1] at hi
    have hik : i = k := by simpa using hi
    subst hik
    exact wpOp_mono (fun a' w' h' => ⟨h'.1, wpAnyH_of_seqL ts l _ a' w' hm.2 hB.2 h'.2⟩) (wpOp_then hm.1 h)
def EventsH (P : Program) (l : List Oper) (Q : Exit → Act → World → Prop) (S : World → Prop) (w : World) (ks : List Key) (ts : List Nat) (a2 : Act) : Prop :=
  ∃ E : List Ev, E.map Ev.key = ks ∧ (∀ e ∈ E, EvOk P l.toArray a2 e) ∧ ∀ (bs : Nat → Nat) W', EvBlocks bs w.heap.size E W' → Ext2 w W' → wpListH P l.toArray Q S (picks l ts) (E.foldl (putEv bs) a2) W'
theorem wpAny_evH (S : World → Prop) (fs hs : List Nat) (ks : List Key) (ts : List Nat) {l : List Oper} {a : Act} {w : World} (hext : ∀ W, Ext2 w W → S W) (hB : planEB l.toArray fs hs ks ts = true)
    (hQ : ∀ c a (d : Option Tmp) v w, Q (.panic c) (a.put d v) w → Q (.panic c) a w)
    (h : wpQS P l.toArray S (fun a1 => wpQ2 P l.toArray (Ext2 w) (EventsH P l Q S w ks ts) (picks l hs) a1) (picks l fs) a) :
    wpAny P .any l.toArray Q l.toArray.size (Array.replicate l.toArray.size false) a w.drew := by
  simp only [planEB, Bool.and_eq_true, decide_eq_true_eq] at hB
  obtain ⟨⟨⟨⟨⟨⟨⟨⟨⟨⟨hns, hord⟩, hlen⟩, hlt⟩, hcov⟩, hfs⟩, hwt⟩, hhs⟩, hwell⟩, hks⟩, hts⟩ := hB
  have hlt' : ∀ i ∈ fs ++ hs ++ keyIdx ks ++ ts, i < l.length := fun i hi => by
    have := List.all_eq_true.1 hlt i hi
    simpa using this
  refine wpAny_of_held (S := S) _ _ _ _ ?_
  suffices key : wpAnyH P .any l.toArray Q S (fs.length + (hs.length + ((keyIdx ks).length + ts.length))) (Array.replicate l.toArray.size false) a w.drew by rwa [hlen] at key
  refine wpAnyH_neutral (tl := fun i => ts.contains i) hns hQ (hext _ (Ext2.drew w)) fs (picks l fs) _ a (picks_map fun i hi => hlt' i (by simp [hi])) (HInv.start _) hfs ?_
  have mono0 : ∀ (qs : List Oper) (a : Act) {K K' : Act → Prop}, (∀ a, K a → K' a) → wpQS P l.toArray S K qs a → wpQS P l.toArray S K' qs a := by
    intro qs
    induction qs with
    | nil => intro a K K' hk h; exact hk _ h
    | cons o qs ih =>
      intro a K K' hk h
      simp only [wpQS] at h ⊢
      split
      · rename_i hw; rw [if_pos hw] at h; obtain ⟨v, h1, h2⟩ := h; exact ⟨v, h1, ih _ hk h2⟩
      · rename_i hw; rw [if_neg hw] at h; exact ih _ hk h
  refine mono0 _ _ (fun a1 h1 inv1 => ?_) h
  have hD1 : ∀ i, (fun i => fs.contains i) i = true → (markAll fs (Array.replicate l.toArray.size false)).getD i true = true := fun i hi => (mark_in _ _ _).2 (.inl (by simpa using hi))
  have hE : wpE3 P .any l.toArray Q (Ext2 w) (fun i => ts.contains i) (fun listed a W => seqLB .any l.toArray ts listed = true ∧ wpListH P l.toArray Q S (picks l ts) a W) (hs.length + (keyIdx ks).length) (markAll fs (Array.replicate l.toArray.size false)) a1 w := by
    refine wpE3_takes (D := fun i => fs.contains i) (Ext2.cr w) hns (waits3 hwt) hQ (fun listed a W hL j hj => ?_) hs (picks l hs) _ a1 (picks_map fun i hi => hlt' i (by simp [hi])) inv1 hD1 hhs ?_
    · have h3 := hL.1
      cases ts with
      | nil => simp only [seqLB, List.isEmpty_iff] at h3; rw [h3] at hj; cases hj
      | cons k ts =>
        simp only [seqLB, Bool.and_eq_true, decide_eq_true_eq] at h3
        rw [h3.1] at hj
        simp at hj; simp [hj]
    · refine wpQ2_mono _ _ (fun a2 h2 inv2 => ?_) h1
      obtain ⟨E, rfl, hok, h2⟩ := h2
      have hE := evWell hwell
      rw [keyIdx_map] at hlen hlt hcov hks hts ⊢
      have hun : ∀ i, i ∈ evIdx E → (markAll hs (markAll fs (Array.replicate l.toArray.size false))).getD i true = false := fun i hi => by
        have h3 := List.all_eq_true.1 hks i hi
        simp only [Bool.and_eq_true, Bool.not_eq_true'] at h3
        cases h4 : (markAll hs (markAll fs (Array.replicate l.toArray.size false))).getD i true with
        | false => rfl
        | true =>
          rw [mark_in, mark_in] at h4
          have h5 : ¬ i ∈ fs ++ hs := by simpa using h3.2
          rw [List.mem_append] at h5
          rcases h4 with h4 | h4 | h4
          · exact absurd (.inr h4) h5
          · exact absurd (.inl h4) h5
          · have hi2 := List.all_eq_true.1 hlt i (by simp [hi])
            have hi3 : i < l.length := by simpa using hi2
            simp [hi3] at h4
      refine wpE3_evs (D := fun i => fs.contains i) (L := fun listed a W => seqLB .any l.toArray ts listed = true ∧ wpListH P l.toArray Q S (picks l ts) a W) hns hord (waits3 hwt) hE hok (fun bs W' hb hx listed h3 h4 => ?_) (evIdx E).length (evIdx E) _ a2 w (fun _ => 0) rfl hE.idx inv2 (fun i hi => (mark_in _ _ _).2 (.inr (hD1 i hi)))
        (fun i hi => ⟨hi, ?_, hun i hi⟩) (fun i h3 h4 h5 => ?_) (fun i h3 h4 => absurd h3 h4) (Below.refl _ _) ⟨?_, fun e he hd => ?_, fun e he f hf hd => ?_, fun e he si ob' hst hd => ?_⟩
      · refine ⟨?_, h2 bs W' hb hx⟩
        have : listed = markAll (evIdx E) (markAll hs (markAll fs (Array.replicate l.toArray.size false))) := by
          refine marks_eq (by rw [h4.size, marked_size, marked_size, marked_size]; simp) fun i hi => ?_
          rw [h4.size] at hi
          have h6 := List.all_eq_true.1 hcov i (List.mem_range.2 hi)
          have h7 : i ∈ fs ++ hs ++ evIdx E ++ ts := by simpa using h6
          rw [mark_in, mark_in, mark_in]
          cases ht : ts.contains i with
          | true =>
            have h8 := h4.tail i ht hi
            rw [h8]
            have h9 : (markAll (evIdx E) (markAll hs (markAll fs (Array.replicate l.toArray.size false)))).getD i true = false := by
              cases ts with
              | nil => cases ht
              | cons k ts' =>
                -- the tail is to come: else it were not the tail of the plan
                cases hq : (markAll (evIdx E) (markAll hs (markAll fs (Array.replicate l.toArray.size false)))).getD i true with
                | false => rfl
                | true =>
                  rw [mark_in, mark_in, mark_in] at hq
                  rcases hq with hq | hq | hq | hq
                  · have h3' := List.all_eq_true.1 hks i hq
                    simp only [Bool.and_eq_true, Bool.not_eq_true'] at h3'
                    rw [h3'.1] at ht; cases ht
                  · have := inv2.tail i ht hi
                    have h10 : (markAll hs (markAll fs (Array.replicate l.toArray.size false))).getD i true = true := (mark_in _ _ _).2 (.inl hq)
                    rw [this] at h10; cases h10
                  · have := inv1.tail i ht hi
                    have h10 : (markAll fs (Array.replicate l.toArray.size false)).getD i true = true := (mark_in _ _ _).2 (.inl hq)
                    rw [this] at h10; cases h10
                  · have hi3 : i < l.length := by simpa using hi
                    simp [hi3] at hq
            constructor
            · intro h; cases h
            · intro h
              have h10 : (markAll (evIdx E) (markAll hs (markAll fs (Array.replicate l.toArray.size false)))).getD i true = true := by rw [mark_in, mark_in, mark_in]; exact h
              rw [h9] at h10; cases h10
          | false =>
            rw [h3 i hi ht]
            simp only [List.mem_append] at h7
            constructor
            · intro _
              rcases h7 with ((h7 | h7) | h7) | h7
              · exact .inr (.inr (.inl h7))
              · exact .inr (.inl h7)
              · exact .inl h7
              · have : ts.contains i = true := by simpa using h7
                rw [this] at ht; cases ht
            · intro _; rfl
        rw [this]; exact hts
      · have h3 := List.all_eq_true.1 hks i hi
        simp only [Bool.and_eq_true, Bool.not_eq_true'] at h3
        exact h3.1
      · have h6 := List.all_eq_true.1 hcov i (List.mem_range.2 h3)
        have h7 : i ∈ fs ++ hs ++ evIdx E ++ ts := by simpa using h6
        have h8 : ¬ (markAll hs (markAll fs (Array.replicate l.toArray.size false))).getD i true = true := by rw [h5]; simp
        rw [mark_in, mark_in] at h8
        simp only [List.mem_append] at h7
        rcases h7 with ((h7 | h7) | h7) | h7
        · exact absurd (.inr (.inl h7)) h8
        · exact absurd (.inl h7) h8
        · exact h7
        · have : ts.contains i = true := by simpa using h7
          rw [this] at h4; cases h4
      · have : (E.filter fun e => isDone (markAll hs (markAll fs (Array.replicate l.toArray.size false))) e.i) = [] := List.filter_eq_nil_iff.2 fun e he => by
          have := hun e.i (List.mem_append_left _ (List.mem_map_of_mem he))
          unfold isDone; rw [this]; simp
        rw [this]; rfl
      · have := hun e.i (List.mem_append_left _ (List.mem_map_of_mem he))
        unfold isDone at hd; rw [this] at hd; cases hd
      · have := hun e.i (List.mem_append_left _ (List.mem_map_of_mem he))
        unfold isDone at hd; rw [this] at hd; cases hd
      · have := hun si (List.mem_append_right _ (List.mem_filterMap.2 ⟨e, he, by rw [hst]; rfl⟩))
        unfold isDone at hd; rw [this] at hd; cases hd
  have := wpAnyH_of_wpE3 (S := S) (g := ts.length) hext (fun listed a W hL => wpAnyH_of_seqL ts (picks l ts) listed a W (picks_map fun i hi => hlt' i (by simp [hi])) hL.1 hL.2) (hs.length + (keyIdx ks).length) _ a1 w.drew (Ext2.drew w) (hE.later (Ext2.drew w))
  rwa [Nat.add_assoc] at this
theorem region_evH (S : World → Prop) (fs hs : List Nat) (ks : List Key) (ts : List Nat) {id : Nat} {l : List Oper} {a : Act} {w : World} (hext : ∀ W, Ext2 w W → S W) (hm : P.follows .mixedOrders = true) (hB : planEB l.toArray fs hs ks ts = true)
    (hQ : ∀ c a (d : Option Tmp) v w, Q (.panic c) (a.put d v) w → Q (.panic c) a w)
    (h : wpQS P l.toArray S (fun a1 => wpQ2 P l.toArray (Ext2 w) (EventsH P l Q S w ks ts) (picks l hs) a1) (picks l fs) a) :
    (Code.region id l.toArray true).wp P Q a w := wp_region_any hm (wpAny_evH S fs hs ks ts hext hB hQ h)
theorem EventsH.none_ {l : List Oper} {w : World} {ts : List Nat} {a2 : Act} (h : ∀ W', Ext2 w W' → wpListH P l.toArray Q S (picks l ts) a2 W') : EventsH P l Q S w [] ts a2 :=
  ⟨[], rfl, fun e he => (by cases he), fun _ W' _ hg => h W' hg⟩
theorem EventsH.lay1 {l : List Oper} {w : World} {ts : List Nat} {a2 : Act} {i d : Nat} (val : Nat → Value) (ob : Obj)
    (hal : ∃ o : Oper, l.toArray[i]? = some o ∧ o.guard = none ∧ o.dst = some d ∧ ∀ W : World, (execOp a2.eval o).run P W = .ok (.value (val W.heap.size)) (W.alloc ob))
    (h : ∀ b W', w.heap.size ≤ b → Ext2 w W' → W'.heap[b]? = some ob → wpListH P l.toArray Q S (picks l ts) (a2.put (some d) (val b)) W') : EventsH P l Q S w [(i, d, none)] ts a2 :=
  ⟨[⟨i, d, val, some ob, none⟩], rfl, fun e he => (by
    rcases List.mem_cons.1 he with rfl | he
    · exact ⟨hal, fun h => (by cases h), fun _ _ h => (by cases h)⟩
    · cases he), fun bs W' hn hg => by
    have := hn.at_ _ List.mem_cons_self ob rfl
    exact h (bs i) W' this.1 hg this.2⟩
end
/-- A block that holds what it holds. -/
def AtBlk (b : Nat) (c : Array Value) (t : TypeId) (W : World) : Prop := W.heap[b]? = some (.cells c t (0, 0))
theorem atBlk_cell {b : Nat} {c : Array Value} {t : TypeId} (x : Cls (AtBlk b c t)) (o : Nat) : x.1.cell? ⟨b, o, none⟩ = c[o]? := by
  have h : x.1.heap[b]? = some (.cells c t (0, 0)) := x.2
  simp [World.cell?, h]
theorem AtBlk.ext {b : Nat} {c : Array Value} {t : TypeId} {w : World} (h : w.heap[b]? = some (.cells c t (0, 0))) : ∀ W, Ext2 w W → AtBlk b c t W := fun W hW => (Below.block hW b (Array.getElem?_eq_some_iff.1 h).1).trans h
end Go.Proofs.YtapeakbngligaaaGreatDoor
namespace Go.Proofs.YtapeakbngligaaaGreatDoor
open Go.RowKit
set_option linter.unusedVariables false
set_option linter.unusedSimpArgs false
section
variable {P : Program} {Q : Exit → Act → World → Prop}
def hinvB (md : Region.Mode) (ops : Array Oper) (tl : Nat → Bool) (listed : Array Bool) : Bool :=
  decide (listed.size = ops.size) &&
  (List.range ops.size).all (fun j => !(listed.getD j false) || match ops[j]? with | some o => o.after.toList.all (fun e => !(Region.binds md e) || listed.getD e.on false) | none => true) &&
  (List.range ops.size).all (fun t => !(tl t) || !(listed.getD t true))
theorem hinv_of {md : Region.Mode} {ops : Array Oper} {tl : Nat → Bool} {listed : Array Bool} (h : hinvB md ops tl listed = true) : HInv md ops tl listed := by
  simp only [hinvB, Bool.and_eq_true, decide_eq_true_eq] at h
  obtain ⟨⟨h1, h2⟩, h3⟩ := h
  refine ⟨h1, fun j oj hj hl e he hb => ?_, fun t ht hlt => ?_⟩
  · have hj' : j < ops.size := (Array.getElem?_eq_some_iff.1 hj).1
    have h4 := List.all_eq_true.1 h2 j (List.mem_range.2 hj')
    rw [hl, hj] at h4
    simp only [Bool.not_true, Bool.false_or] at h4
    have h5 := List.all_eq_true.1 h4 e (by simpa using he)
    rw [hb] at h5
    simpa using h5
  · have h4 := List.all_eq_true.1 h3 t (List.mem_range.2 hlt)
    rw [ht] at h4
    simpa using h4
def seqB (md : Region.Mode) (ops : Array Oper) : List Nat → Array Bool → Bool
  | [], _ => true
  | k :: ks, listed => decide (Region.ready md ops listed = [k]) && seqB md ops ks (listed.setIfInBounds k true)
/-- Operations one behind the other, then what is owed. -/
def wpTl (P : Program) (ops : Array Oper) (Q : Exit → Act → World → Prop) (K : Act → World → Prop) : List Oper → Act → World → Prop
  | [], a, w => K a w
  | o :: rest, a, w => wpList P ops (Exit.then (fun a' w' => wpTl P ops Q K rest a' w') Q) [o] a w
theorem wpTl_nil {ops : Array Oper} {K : Act → World → Prop} {a : Act} {w : World} (h : K a w) : wpTl P ops Q K [] a w := h
theorem wpTl_cons {ops : Array Oper} {K : Act → World → Prop} {o : Oper} {rest : List Oper} {a : Act} {w : World} (h : wpList P ops (Exit.then (fun a' w' => wpTl P ops Q K rest a' w') Q) [o] a w) : wpTl P ops Q K (o :: rest) a w := h
theorem wpAny_tl {ops : Array Oper} {K : Act → World → Prop} {g : Nat} {l2 : Array Bool} (hK : ∀ a w, K a w → wpAny P .any ops Q g l2 a w) : ∀ (ts : List Nat) (l : List Oper) (listed : Array Bool) (a : Act) (w : World), ts.map (fun i => ops[i]?) = l.map some →
    markAll ts listed = l2 → seqB .any ops ts listed = true → wpTl P ops Q K l a w → wpAny P .any ops Q (ts.length + g) listed a w
  | [], [], listed, a, w, _, he, _, h => by rw [List.length_nil, Nat.zero_add]; subst he; exact hK _ _ h
  | [], _ :: _, _, _, _, hm, _, _, _ => by cases hm
  | _ :: _, [], _, _, _, hm, _, _, _ => by cases hm
  | k :: ts, o :: l, listed, a, w, hm, he, hB, h => by
    simp only [List.map_cons, List.cons.injEq] at hm
    simp only [seqB, Bool.and_eq_true, decide_eq_true_eq] at hB
    rw [List.length_cons, show ts.length + 1 + g = (ts.length + g) + 1 by omega]
    refine ⟨fun h1 => (by rw [hB.1] at h1; cases h1), fun i hi => ?_⟩
    rw [hB.1] at hi
    have hik : i = k := by simpa using hi
    subst hik
    exact wpOp_mono (fun a' w' h' => wpAny_tl hK ts l _ a' w' hm.2 he hB.2 h') (wpOp_then hm.1 h)
/-- A stage: floats (their value hangs on no world), heads, then operations that come up alone. -/
structure Stg where
  fs : List Nat
  hs : List Nat
  ts : List Nat
def stB (ops : Array Oper) : List Stg → Array Bool → Bool
  | [], listed => (Region.ready .any ops listed).isEmpty
  | ⟨fs, hs, ts⟩ :: rest, listed0 =>
    hinvB .any ops (fun _ => false) listed0 && takes3B .any ops (fun _ => false) fs listed0 &&
    (let listed := markAll fs listed0
    hinvB .any ops (fun i => !(listed.getD i true) && !(hs.contains i)) listed && waitsB .any ops (fun i => listed.getD i true) (fun i => !(listed.getD i true) && !(hs.contains i)) &&
    takes3B .any ops (fun i => !(listed.getD i true) && !(hs.contains i)) hs listed && (Region.ready .any ops (markAll hs listed)).all (fun i => !(listed.getD i true) && !(hs.contains i)) &&
    (fs ++ hs ++ ts).all (fun i => decide (i < ops.size)) && seqB .any ops ts (markAll hs listed) && stB ops rest (markAll ts (markAll hs listed)))
def stN : List Stg → Nat
  | [] => 0
  | ⟨fs, hs, ts⟩ :: rest => fs.length + (hs.length + (ts.length + stN rest))
def wpSt (P : Program) (l : List Oper) (Q : Exit → Act → World → Prop) : List Stg → Act → World → Prop
  | [], a, w => Q .normal a w
  | ⟨fs, hs, ts⟩ :: rest, a, w => wpQ0 P l.toArray (fun a1 => wpQ2 P l.toArray (Ext2 w) (fun a' => ∀ W, Ext2 w W → wpTl P l.toArray Q (wpSt P l Q rest) (picks l ts) a' W) (picks l hs) a1) (picks l fs) a
theorem wpSt_cons {l : List Oper} {fs hs ts : List Nat} {rest : List Stg} {a : Act} {w : World} (h : wpQ0 P l.toArray (fun a1 => wpQ2 P l.toArray (Ext2 w) (fun a' => ∀ W, Ext2 w W → wpTl P l.toArray Q (wpSt P l Q rest) (picks l ts) a' W) (picks l hs) a1) (picks l fs) a) : wpSt P l Q (⟨fs, hs, ts⟩ :: rest) a w := h
theorem wpSt_name {l : List Oper} {st : List Stg} {a : Act} {w : World} (h : ∀ w0, w0 = w → wpSt P l Q st a w0) : wpSt P l Q st a w := h w rfl
theorem wpSt_nil {l : List Oper} {a : Act} {w : World} (h : Q .normal a w) : wpSt P l Q [] a w := h
theorem wpQ0_mono {ops : Array Oper} : ∀ (qs : List Oper) (a : Act) {K K' : Act → Prop}, (∀ a, K a → K' a) → wpQ0 P ops K qs a → wpQ0 P ops K' qs a
  | [], a, _, _, hk, h => hk _ h
  | o :: qs, a, K, K', hk, h => by
    simp only [wpQ0] at h ⊢
    split
    · rename_i hw; rw [if_pos hw] at h; obtain ⟨v, h1, h2⟩ := h; exact ⟨v, h1, wpQ0_mono qs _ hk h2⟩
    · rename_i hw; rw [if_neg hw] at h; exact wpQ0_mono qs _ hk h
theorem wpAny_stage {l : List Oper} {fs hs ts : List Nat} {rest : List Stg} (hns : Region.noSelect l.toArray = true) (hQ : ∀ c a (d : Option Tmp) v w, Q (.panic c) (a.put d v) w → Q (.panic c) a w)
    (ih : ∀ (listed : Array Bool) (a : Act) (w : World), stB l.toArray rest listed = true → wpSt P l Q rest a w → wpAny P .any l.toArray Q (stN rest) listed a w)
    (listed0 : Array Bool) (a : Act) (w W : World) (hC : Ext2 w W) (hB : stB l.toArray (⟨fs, hs, ts⟩ :: rest) listed0 = true) (h : wpSt P l Q (⟨fs, hs, ts⟩ :: rest) a w) : wpAny P .any l.toArray Q (stN (⟨fs, hs, ts⟩ :: rest)) listed0 a W := by
  simp only [stB, Bool.and_eq_true] at hB
  obtain ⟨⟨hinv0, hfs⟩, ⟨⟨⟨⟨⟨⟨hinv, hwt⟩, htk⟩, hdn⟩, hlt⟩, hsq⟩, hrest⟩⟩ := hB
  have hlt' : ∀ i ∈ fs ++ hs ++ ts, i < l.length := fun i hi => by
    have := List.all_eq_true.1 hlt i hi
    simpa using this
  refine wpAny_floats (tl := fun _ => false) hns hQ fs (picks l fs) listed0 a (picks_map fun i hi => hlt' i (by simp [hi])) (hinv_of hinv0) hfs (wpQ0_mono _ _ (fun a1 h1 _ => ?_) h)
  have hE : wpE3 P .any l.toArray Q (Ext2 w) (fun i => !((markAll fs listed0).getD i true) && !(hs.contains i)) (fun l' a' W' => l' = markAll hs (markAll fs listed0) ∧ wpAny P .any l.toArray Q (ts.length + stN rest) l' a' W') (hs.length + 0) (markAll fs listed0) a1 W :=
    wpE3_takes (D := fun i => (markAll fs listed0).getD i true) (Ext2.cr w) hns (waits3 hwt) hQ (fun l' a' W' hL j hj => by rw [hL.1] at hj; exact List.all_eq_true.1 hdn j hj) hs (picks l hs) (markAll fs listed0) a1 (picks_map fun i hi => hlt' i (by simp [hi])) (hinv_of hinv) (fun i hi => hi) htk
      (wpQ2_mono _ _ (fun a' h' _ W' _ hC' => ⟨rfl, wpAny_tl (fun a2 w2 h2 => ih _ a2 w2 hrest h2) ts (picks l ts) _ a' W' (picks_map fun i hi => hlt' i (by simp [hi])) rfl hsq (h' W' hC')⟩) h1)
  exact wpAny_of_wpE3 (fun l' a' W' hL => hL.2) (hs.length + 0) (markAll fs listed0) a1 W hC hE
theorem wpAny_st {l : List Oper} (hns : Region.noSelect l.toArray = true) (hQ : ∀ c a (d : Option Tmp) v w, Q (.panic c) (a.put d v) w → Q (.panic c) a w) : ∀ (st : List Stg) (listed : Array Bool) (a : Act) (w : World), stB l.toArray st listed = true → wpSt P l Q st a w → wpAny P .any l.toArray Q (stN st) listed a w
  | [], listed, a, w, hB, h => ⟨by simpa [stB] using hB, h⟩
  | ⟨fs, hs, ts⟩ :: rest, listed, a, w, hB, h => wpAny_stage hns hQ (fun l' a' w' hB' h' => wpAny_st hns hQ rest l' a' w' hB' h') listed a w w (Below.refl _ _) hB h
def planS (ops : Array Oper) (st : List Stg) : Bool := Region.noSelect ops && decide (stN st = ops.size) && !st.isEmpty && stB ops st (Array.replicate ops.size false)
theorem wpAny_planS (st : List Stg) {l : List Oper} {a : Act} {w : World} (hB : planS l.toArray st = true)
    (hQ : ∀ c a (d : Option Tmp) v w, Q (.panic c) (a.put d v) w → Q (.panic c) a w) (h : wpSt P l Q st a w) : wpAny P .any l.toArray Q l.toArray.size (Array.replicate l.toArray.size false) a w.drew := by
  simp only [planS, Bool.and_eq_true, decide_eq_true_eq] at hB
  obtain ⟨⟨⟨hns, hn⟩, hne⟩, hst⟩ := hB
  rw [← hn]
  cases st with
  | nil => cases hne
  | cons x rest =>
    obtain ⟨fs, hs, ts⟩ := x
    have hsz : l.toArray.size = stN (⟨fs, hs, ts⟩ :: rest) := hn.symm
    rw [hsz] at hst
    exact wpAny_stage hns hQ (fun l' a' w' hB' h' => wpAny_st hns hQ rest l' a' w' hB' h') _ a w w.drew (Ext2.drew w) hst h
theorem region_st (st : List Stg) {id : Nat} {l : List Oper} {a : Act} {w : World} (hm : P.follows .mixedOrders = true) (hB : planS l.toArray st = true)
    (hQ : ∀ c a (d : Option Tmp) v w, Q (.panic c) (a.put d v) w → Q (.panic c) a w) (h : wpSt P l Q st a w) : (Code.region id l.toArray true).wp P Q a w := wp_region_any hm (wpAny_planS st hB hQ h)
end
end Go.Proofs.YtapeakbngligaaaGreatDoor
namespace Go.Proofs.YtapeakbngligaaaGreatDoor
open Go.RowKit
section
variable {P : Program} {Q : Exit → Act → World → Prop}
end
end Go.Proofs.YtapeakbngligaaaGreatDoor
namespace Go.Proofs.YtapeakbngligaaaGreatDoor
open Go.RowKit
set_option linter.unusedVariables false
set_option linter.unusedSimpArgs false
section
variable {P : Program} {md : Region.Mode} {ops : Array Oper} {Q : Exit → Act → World → Prop} {C : World → Prop} {n : Nat} {F : Fence}
variable {D tl : Nat → Bool} {L : Array Bool → Act → World → Prop}
theorem wpList_to_in {P : Program} {ops : Array Oper} {Q : Exit → Act → World → Prop} {l0 n : Nat} (hq : ¬ LetsOut Q) : ∀ (l : List Oper) (a : Act) (w : World), (∀ o ∈ l, ∀ c, o.op ≠ .defer c) → wpList P ops Q l a w → wpListIn (Fence.wide.inRound l0) n P ops Q l a w
  | [], _, _, _, h => h
  | o :: l, a, w, hn, h => by
    have ih := fun (a : Act) (w : World) (h : wpList P ops Q l a w) => wpList_to_in (n := n) (l0 := l0) hq l a w (fun o ho => hn o (List.mem_cons_of_mem _ ho)) h
    simp only [wpList] at h
    simp only [wpListIn]
    split
    · rename_i hw
      rw [if_pos hw] at h
      rcases h with h | h
      · exact wp_to_in (hn o List.mem_cons_self) (Oper.wp_mono ih h)
      · exact (hq h.2).elim
    · rename_i hw
      rw [if_neg hw] at h
      exact ⟨fun _ _ => trivial, ih _ _ h⟩
theorem round_region_list {P : Program} {Q : Exit → Act → World → Prop} {l0 n id : Nat} {l : List Oper} {a : Act} {w : World} (hn : noDefers l.toArray = true) (hq : ¬ LetsOut Q) (h : wpList P l.toArray Q l a w) : (Code.region id l.toArray false).wpIn (Fence.wide.inRound l0) n P Q a w :=
  wpIn_region_lit (wpList_to_in hq l a w (fun o ho => by
    obtain ⟨i, hi, rfl⟩ := List.mem_iff_getElem.1 ho
    exact noDefers_at hn (i := i) (by simp [hi])) h)
/-! A region whose reads cannot panic: nothing is asked of the post at a panic. -/
end
end Go.Proofs.YtapeakbngligaaaGreatDoor
namespace Go.Proofs.YtapeakbngligaaaGreatDoor
open Go.RowKit
set_option linter.unusedVariables false
set_option linter.unusedSimpArgs false
section
variable {P : Program} {Q : Exit → Act → World → Prop}
end
end Go.Proofs.YtapeakbngligaaaGreatDoor
namespace Go.Proofs.YtapeakbngligaaaGreatDoor
open Go.RowKit
set_option linter.unusedVariables false
set_option linter.unusedSimpArgs false
/-- Orders: one operation is ready, or two of them are. -/
inductive OT where
  | leaf
  | one (i : Nat) (t : OT)
  | two (i : Nat) (t : OT) (j : Nat) (u : OT)
def OT.len : OT → Nat
  | .leaf => 0
  | .one _ t => t.len + 1
  | .two _ t _ _ => t.len + 1
def OT.chk (md : Region.Mode) (ops : Array Oper) : OT → Array Bool → Bool
  | .leaf, listed => (Region.ready md ops listed).isEmpty
  | .one i t, listed => decide (Region.ready md ops listed = [i]) && decide (i < ops.size) && t.chk md ops (listed.setIfInBounds i true)
  | .two i t j u, listed => decide (Region.ready md ops listed = [i, j]) && decide (i < ops.size) && decide (j < ops.size) && decide (t.len = u.len) && t.chk md ops (listed.setIfInBounds i true) && u.chk md ops (listed.setIfInBounds j true)
section
variable {P : Program} {md : Region.Mode} {Q : Exit → Act → World → Prop} {S : World → Prop}
theorem picks_one {l : List Oper} {i : Nat} (hi : i < l.length) : picks l [i] = [l[i]] := by rw [picks, List.drop_eq_getElem_cons hi]; rfl
end
/-- A class of worlds with two blocks. -/
def At2 (b : Nat) (c : Array Value) (t : TypeId) (b' : Nat) (c' : Array Value) (t' : TypeId) (W : World) : Prop := W.heap[b]? = some (.cells c t (0, 0)) ∧ W.heap[b']? = some (.cells c' t' (0, 0))
theorem at2_cell {b b' : Nat} {c c' : Array Value} {t t' : TypeId} (x : Cls (At2 b c t b' c' t')) (o : Nat) : x.1.cell? ⟨b, o, none⟩ = c[o]? := by
  have h := x.2.1
  simp [World.cell?, h]
theorem at2_cell' {b b' : Nat} {c c' : Array Value} {t t' : TypeId} (x : Cls (At2 b c t b' c' t')) (o : Nat) : x.1.cell? ⟨b', o, none⟩ = c'[o]? := by
  have h := x.2.2
  simp [World.cell?, h]
theorem At2.ext {b b' : Nat} {c c' : Array Value} {t t' : TypeId} {w : World} (h : w.heap[b]? = some (.cells c t (0, 0))) (h' : w.heap[b']? = some (.cells c' t' (0, 0))) : ∀ W, Ext2 w W → At2 b c t b' c' t' W := fun W hW => ⟨(Below.block hW b (Array.getElem?_eq_some_iff.1 h).1).trans h, (Below.block hW b' (Array.getElem?_eq_some_iff.1 h').1).trans h'⟩
end Go.Proofs.YtapeakbngligaaaGreatDoor
namespace Go.Proofs.YtapeakbngligaaaGreatDoor
open Go.RowKit
set_option linter.unusedVariables false
set_option linter.unusedSimpArgs false
/-- Orders: some operations without an effect are ready, and go first; or one operation is ready, or two of them are. -/
inductive OU where
  | leaf
  | flt (fs : List Nat) (t : OU)
  | one (i : Nat) (t : OU)
  | two (i : Nat) (t : OU) (j : Nat) (u : OU)
def OU.len : OU → Nat
  | .leaf => 0
  | .flt fs t => fs.length + t.len
  | .one _ t => t.len + 1
  | .two _ t _ _ => t.len + 1
def OU.chk (md : Region.Mode) (ops : Array Oper) : OU → Array Bool → Bool
  | .leaf, listed => (Region.ready md ops listed).isEmpty
  | .flt fs t, listed => hinvB md ops (fun _ => false) listed && fs.all (fun i => decide (i < ops.size)) && takes3B md ops (fun _ => false) fs listed && t.chk md ops (markAll fs listed)
  | .one i t, listed => decide (Region.ready md ops listed = [i]) && decide (i < ops.size) && t.chk md ops (listed.setIfInBounds i true)
  | .two i t j u, listed => decide (Region.ready md ops listed = [i, j]) && decide (i < ops.size) && decide (j < ops.size) && decide (t.len = u.len) && t.chk md ops (listed.setIfInBounds i true) && u.chk md ops (listed.setIfInBounds j true)
section
variable {P : Program} {md : Region.Mode} {Q : Exit → Act → World → Prop} {S : World → Prop}
def wpU (P : Program) (l : List Oper) (Q : Exit → Act → World → Prop) (S : World → Prop) : OU → Act → World → Prop
  | .leaf, a, w => Q .normal a w
  | .flt fs t, a, w => wpQS P l.toArray S (fun a' => wpU P l Q S t a' w) (picks l fs) a
  | .one i t, a, w => wpList P l.toArray (Exit.then (fun a' w' => S w' ∧ wpU P l Q S t a' w') Q) (picks l [i]) a w
  | .two i t j u, a, w => wpList P l.toArray (Exit.then (fun a' w' => S w' ∧ wpU P l Q S t a' w') Q) (picks l [i]) a w ∧ wpList P l.toArray (Exit.then (fun a' w' => S w' ∧ wpU P l Q S u a' w') Q) (picks l [j]) a w
theorem wpQS_mono {ops : Array Oper} : ∀ (qs : List Oper) (a : Act) {K K' : Act → Prop}, (∀ a, K a → K' a) → wpQS P ops S K qs a → wpQS P ops S K' qs a
  | [], _, _, _, hk, h => hk _ h
  | o :: qs, a, K, K', hk, h => by
    simp only [wpQS] at h ⊢
    split
    · rename_i hw; rw [if_pos hw] at h; obtain ⟨v, h1, h2⟩ := h; exact ⟨v, h1, wpQS_mono qs _ hk h2⟩
    · rename_i hw; rw [if_neg hw] at h; exact wpQS_mono qs _ hk h
theorem wpAnyH_treeU {l : List Oper} (hns : Region.noSelect l.toArray = true) (hQ : ∀ c a (d : Option Tmp) v w, Q (.panic c) (a.put d v) w → Q (.panic c) a w) : ∀ (t : OU) (listed : Array Bool) (a : Act) (w : World), S w → t.chk md l.toArray listed = true → wpU P l Q S t a w → wpAnyH P md l.toArray Q S t.len listed a w
  | .leaf, listed, a, w, hS, hB, h => ⟨by simpa [OU.chk] using hB, h⟩
  | .flt fs t, listed, a, w, hS, hB, h => by
    simp only [OU.chk, Bool.and_eq_true] at hB
    obtain ⟨⟨⟨hi, hlt⟩, htk⟩, hB⟩ := hB
    have hlt' : ∀ i ∈ fs, i < l.length := fun i hi => by
      have := List.all_eq_true.1 hlt i hi
      simpa using this
    exact wpAnyH_neutral (tl := fun _ => false) hns hQ hS fs (picks l fs) listed a (picks_map hlt') (hinv_of hi) htk (wpQS_mono _ _ (fun a1 h1 _ => wpAnyH_treeU hns hQ t _ a1 w hS hB h1) h)
  | .one i t, listed, a, w, hS, hB, h => by
    simp only [OU.chk, Bool.and_eq_true, decide_eq_true_eq] at hB
    obtain ⟨⟨hr, hi⟩, hB⟩ := hB
    have hi' : i < l.length := by simpa using hi
    have h : wpList P l.toArray (Exit.then (fun a' w' => S w' ∧ wpU P l Q S t a' w') Q) (picks l [i]) a w := h
    rw [picks_one hi'] at h
    refine ⟨fun h1 => (by rw [hr] at h1; cases h1), fun k hk => ?_⟩
    rw [hr] at hk
    have hik : k = i := by simpa using hk
    subst hik
    exact wpOp_mono (fun a' w' h' => ⟨h'.1, wpAnyH_treeU hns hQ t _ a' w' h'.1 hB h'.2⟩) (wpOp_then (show l.toArray[k]? = some l[k] by simp) h)
  | .two i t j u, listed, a, w, hS, hB, h => by
    simp only [OU.chk, Bool.and_eq_true, decide_eq_true_eq] at hB
    obtain ⟨⟨⟨⟨⟨hr, hi⟩, hj⟩, hl⟩, hB1⟩, hB2⟩ := hB
    have hi' : i < l.length := by simpa using hi
    have hj' : j < l.length := by simpa using hj
    have h : wpList P l.toArray (Exit.then (fun a' w' => S w' ∧ wpU P l Q S t a' w') Q) (picks l [i]) a w ∧ wpList P l.toArray (Exit.then (fun a' w' => S w' ∧ wpU P l Q S u a' w') Q) (picks l [j]) a w := h
    obtain ⟨h1, h2⟩ := h
    rw [picks_one hi'] at h1
    rw [picks_one hj'] at h2
    refine ⟨fun h1 => (by rw [hr] at h1; cases h1), fun k hk => ?_⟩
    rw [hr] at hk
    rcases List.mem_cons.1 hk with rfl | hk
    · exact wpOp_mono (fun a' w' h' => ⟨h'.1, wpAnyH_treeU hns hQ t _ a' w' h'.1 hB1 h'.2⟩) (wpOp_then (show l.toArray[k]? = some l[k] by simp) h1)
    · have hkj : k = j := by simpa using hk
      subst hkj
      exact wpOp_mono (fun a' w' h' => ⟨h'.1, (show wpAnyH P md l.toArray Q S t.len _ a' w' by rw [hl]; exact wpAnyH_treeU hns hQ u _ a' w' h'.1 hB2 h'.2)⟩) (wpOp_then (show l.toArray[k]? = some l[k] by simp) h2)
def planU (ops : Array Oper) (t : OU) : Bool :=
  Region.noSelect ops && decide (t.len = ops.size) && t.chk .any ops (Array.replicate ops.size false)
theorem wpAny_treeU (S : World → Prop) (t : OU) {l : List Oper} {a : Act} {w : World} (hext : ∀ W, Ext2 w W → S W) (hB : planU l.toArray t = true)
    (hQ : ∀ c a (d : Option Tmp) v w, Q (.panic c) (a.put d v) w → Q (.panic c) a w)
    (h : ∀ W, Ext2 w W → wpU P l Q S t a W) :
    wpAny P .any l.toArray Q l.toArray.size (Array.replicate l.toArray.size false) a w.drew := by
  simp only [planU, Bool.and_eq_true, decide_eq_true_eq] at hB
  obtain ⟨⟨hns, hlen⟩, hch⟩ := hB
  refine wpAny_of_held (S := S) _ _ _ _ ?_
  rw [← hlen]
  have := wpAnyH_treeU (P := P) (md := .any) (Q := Q) (S := S) hns hQ t (Array.replicate l.toArray.size false) a w.drew (hext _ (Ext2.drew w)) hch (h _ (Ext2.drew w))
  rwa [hlen] at this ⊢
theorem region_treeU (S : World → Prop) (t : OU) {id : Nat} {l : List Oper} {a : Act} {w : World} (hext : ∀ W, Ext2 w W → S W) (hm : P.follows .mixedOrders = true) (hB : planU l.toArray t = true)
    (hQ : ∀ c a (d : Option Tmp) v w, Q (.panic c) (a.put d v) w → Q (.panic c) a w)
    (h : ∀ W, Ext2 w W → wpU P l Q S t a W) :
    (Code.region id l.toArray true).wp P Q a w := wp_region_any hm (wpAny_treeU S t hext hB hQ h)
theorem wpU_flt {l : List Oper} {fs : List Nat} {t : OU} {a : Act} {w : World} (h : wpQS P l.toArray S (fun a' => wpU P l Q S t a' w) (picks l fs) a) : wpU P l Q S (.flt fs t) a w := h
theorem wpU_one {l : List Oper} {i : Nat} {t : OU} {a : Act} {w : World} (h : wpList P l.toArray (Exit.then (fun a' w' => S w' ∧ wpU P l Q S t a' w') Q) (picks l [i]) a w) : wpU P l Q S (.one i t) a w := h
theorem wpU_two {l : List Oper} {i j : Nat} {t u : OU} {a : Act} {w : World} (h : wpList P l.toArray (Exit.then (fun a' w' => S w' ∧ wpU P l Q S t a' w') Q) (picks l [i]) a w) (g : wpList P l.toArray (Exit.then (fun a' w' => S w' ∧ wpU P l Q S u a' w') Q) (picks l [j]) a w) : wpU P l Q S (.two i t j u) a w := ⟨h, g⟩
theorem andU_name {A : World → Prop} {l : List Oper} {t : OU} {a : Act} {w : World} (h : ∀ w0, w0 = w → A w0 ∧ wpU P l Q S t a w0) : A w ∧ wpU P l Q S t a w := h w rfl
theorem wpU_leaf {l : List Oper} {a : Act} {w : World} (h : Q .normal a w) : wpU P l Q S .leaf a w := h
end
end Go.Proofs.YtapeakbngligaaaGreatDoor
