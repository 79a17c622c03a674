/-
  A region in a round of a range over a function goes as everywhere: regions that draw their order, by the laws of the plain walk.
  A region that draws its order: operations that leave one value in every world of a class (reads, arithmetic, calls that make memory at most) are taken first, in the order of the text; what is left is walked in the worlds that may then stand.
-/
import Derived.RangeFuncNested
import Derived.OrdersIn
import Derived.RangeFuncBound
import Derived.RangeFuncCalls
import Derived.RangeFuncLeaves
import Derived.Deep.RegionHeld3
import Derived.Deep.QuietTactic
import Derived.BigQuiet
import Derived.StillTail
import Derived.Below
namespace Go.Proofs.YtfpaihjcbpaneaaGreatDoor
variable {P : Program} {ops : Array Oper} {Q : Exit → Act → World → Prop} {l0 n : Nat}
theorem wp_to_in {o : Oper} {a : Act} {w : World} {K : Act → World → Prop} (hd : ∀ c, o.op ≠ .defer c) (h : o.wp P a w K Q) : o.wpIn (Fence.wide.inRound l0) n P a w K Q := by
  refine ⟨fun _ _ => trivial, ?_⟩
  rw [Oper.semAt_eq _ _ _ hd]
  unfold Oper.wp at h
  generalize (execOp a.eval o).run P w = r at *
  cases r with
  | ok x w' =>
    cases x with
    | enter f args => exact ⟨fun h0 => (by cases h0), CallsIn.inRound l0 (callsIn_wide.2 h)⟩
    | row r args => exact ⟨fun h0 => (by cases h0), fun c cs _ => by obtain ⟨v, w', r, s⟩ := h c cs; exact ⟨v, w', r, stepsIn_wide.2 s⟩⟩
    | _ => first | exact h | exact h.elim
  | halt x w' => cases x <;> first | exact h | exact h.elim
def noDefers (ops : Array Oper) : Bool := ops.all fun o => match o.op with | .defer _ => false | _ => true
theorem noDefers_at (h : noDefers ops = true) {i : Nat} {o : Oper} (ho : ops[i]? = some o) : ∀ c, o.op ≠ .defer c := by
  intro c hc
  obtain ⟨hi, rfl⟩ := Array.getElem?_eq_some_iff.1 ho
  have := Array.all_eq_true.1 h i hi
  rw [hc] at this; cases this
theorem wpOp_to_in (hn : noDefers ops = true) (hq : ¬ LetsOut Q) {i : Nat} {a : Act} {w : World} {K K' : Act → World → Prop} (hK : ∀ a w, K a w → K' a w) (h : wpOp P ops Q i K a w) : wpOpIn (Fence.wide.inRound l0) n P ops Q i K' a w := by
  unfold wpOp at h; unfold wpOpIn
  cases ho : ops[i]? with
  | none => rw [ho] at h; exact hK _ _ h
  | some o =>
    rw [ho] at h
    simp only at h ⊢
    by_cases hw : Region.wanted o (yielded ops a.tmps) = true
    · rw [if_pos hw] at h ⊢
      rcases h with h | h
      · exact wp_to_in (noDefers_at hn ho) (Oper.wp_mono hK h)
      · exact (hq h.2).elim
    · rw [if_neg hw] at h ⊢
      exact ⟨fun _ _ => trivial, hK _ _ h⟩
theorem wpAny_to_in (hn : noDefers ops = true) (hq : ¬ LetsOut Q) {md : Region.Mode} : ∀ (f : Nat) (listed : Array Bool) (a : Act) (w : World), wpAny P md ops Q f listed a w → wpAnyIn (Fence.wide.inRound l0) n P md ops Q f listed a w
  | 0, _, _, _, h => h
  | f + 1, _, _, _, h => ⟨h.1, fun i hi => wpOp_to_in hn hq (fun a' w' h' => wpAny_to_in hn hq f _ a' w' h') (h.2 i hi)⟩
theorem round_region_any {id : Nat} {a : Act} {w : World} (hn : noDefers ops = true) (hq : ¬ LetsOut Q) (hm : P.follows .mixedOrders = true)
    (h : wpAny P .any ops Q ops.size (Array.replicate ops.size false) a { w with drawn := w.drawn + 1 }) : (Code.region id ops true).wpIn (Fence.wide.inRound l0) n P Q a w :=
  wpIn_region_any hm (wpAny_to_in hn hq _ _ _ _ h)
/-- A region that draws, in a round: S is shown behind each operation that turns the world. -/
theorem round_region_held {S : World → Prop} {id : Nat} {a : Act} {w : World} (hn : noDefers ops = true) (hq : ¬ LetsOut Q) (hm : P.follows .mixedOrders = true) (hS : S w.drew)
    (h : S w.drew → wpAnyH P .any ops Q S ops.size (Array.replicate ops.size false) a w.drew) : (Code.region id ops true).wpIn (Fence.wide.inRound l0) n P Q a w :=
  round_region_any hn hq hm (wpAny_of_held _ _ _ _ (h hS))
/-- A region that draws and only reads, in a round. -/
theorem round_region_quiet {id : Nat} {a : Act} {w : World} {l : List Oper} (hn : noDefers l.toArray = true) (hq : ¬ LetsOut Q) (hm : P.follows .mixedOrders = true) (hB : Region.lexB .any l.toArray = true)
    (h : wpQuiet P l.toArray (fun w' => ∃ n, w' = w.drewN n) (fun a' => ∀ w', (∃ n, w' = w.drewN n) → Q .normal a' w') l a) : (Code.region id l.toArray true).wpIn (Fence.wide.inRound l0) n P Q a w := by
  simp only [Region.lexB, Bool.and_eq_true] at hB
  refine round_region_any hn hq hm (wpAny_of_quiet (C := fun w' => ∃ n, w' = w.drewN n) (Q := fun a' => ∀ w', (∃ n, w' = w.drewN n) → Q .normal a' w') (fun _ w' hw' h => h w' hw') _ _ _ _ ⟨1, rfl⟩ ?_)
  have := wpAnyQ_lex (P := P) (C := fun w' => ∃ n, w' = w.drewN n) (md := .any) (Q := fun a' => ∀ w', (∃ n, w' = w.drewN n) → Q .normal a' w') hB.1 l 0 (Array.replicate l.toArray.size false) a (by simp) (by simpa using hB.2) h
  simpa using this
/-- A region that draws, each of whose operations leaves one value in every world of a class: walked in the order of the text. -/
theorem region_class (C : World → Prop) {id : Nat} {a : Act} {w : World} {l : List Oper} (hm : P.follows .mixedOrders = true) (hB : Region.lexB .any l.toArray = true) (hC : C w.drew)
    (h : wpQuiet P l.toArray C (fun a' => ∀ w', C w' → Q .normal a' w') l a) : (Code.region id l.toArray true).wp P Q a w :=
  wp_region_quiet (C := C) hm hB hC (by simpa using h)
theorem round_region_class (C : World → Prop) {id : Nat} {a : Act} {w : World} {l : List Oper} (hn : noDefers l.toArray = true) (hq : ¬ LetsOut Q) (hm : P.follows .mixedOrders = true) (hB : Region.lexB .any l.toArray = true) (hC : C w.drew)
    (h : wpQuiet P l.toArray C (fun a' => ∀ w', C w' → Q .normal a' w') l a) : (Code.region id l.toArray true).wpIn (Fence.wide.inRound l0) n P Q a w := by
  simp only [Region.lexB, Bool.and_eq_true] at hB
  refine round_region_any hn hq hm (wpAny_of_quiet (C := C) (Q := fun a' => ∀ w', C w' → Q .normal a' w') (fun _ w' hw' h => h w' hw') _ _ _ _ hC ?_)
  have := wpAnyQ_lex (P := P) (C := C) (md := .any) (Q := fun a' => ∀ w', C w' → Q .normal a' w') hB.1 l 0 (Array.replicate l.toArray.size false) a (by simp) (by simpa using hB.2) h
  simpa using this
end Go.Proofs.YtfpaihjcbpaneaaGreatDoor
namespace Go.Proofs.YtfpaihjcbpaneaaGreatDoor
open Go.RowKit
set_option linter.unusedVariables false
section
variable {P : Program} {md : Region.Mode} {ops : Array Oper} {Q : Exit → Act → World → Prop} {C : World → Prop}
def upon2 (P : Program) (w : World) (v : Value) : Result Next → Prop
  | .ok (.value u) w' => w' = w ∧ u = v
  | .ok .skip w' => w' = w ∧ v = undef
  | .ok (.enter f args) w' => w' = w ∧ Calls P f args w (fun e w'' => e = .returned v ∧ Below w.heap.size w w'')
  | _ => False
structure Cls (C : World → Prop) where
  val : World
  prop : C val
def Yields2 (P : Program) (ops : Array Oper) (C : World → Prop) (o : Oper) (v : Value) (a : Act) : Prop :=
  (Region.wanted o (yielded ops a.tmps) = true ∧ ∀ x : Cls C, upon2 P x.1 v ((execOp a.eval o).run P x.1)) ∨ (Region.wanted o (yielded ops a.tmps) = false ∧ v = undef)
theorem Yields2.of_same {o : Oper} {v : Value} {a a' : Act} (hy : Yields2 P ops C o v a) (he : execOp a'.eval o = execOp a.eval o)
    (hw : Region.wanted o (yielded ops a'.tmps) = Region.wanted o (yielded ops a.tmps)) : Yields2 P ops C o v a' := by
  unfold Yields2 at *
  rw [he, hw]
  exact hy
def CR (C : World → Prop) : Prop := ∀ W W', C W → Below W.heap.size W W' → C W'
theorem Yields2.wpOp (hCR : CR C) {i : Nat} {o : Oper} {v : Value} {a : Act} {w : World} {K : Act → World → Prop} (hi : ops[i]? = some o) (hy : Yields2 P ops C o v a) (hC : C w)
    (h : ∀ W', Below w.heap.size w W' → C W' → K (a.put o.dst v) W') : wpOp P ops Q i K a w := by
  unfold Go.wpOp
  simp only [hi]
  rcases hy with ⟨hw, hv⟩ | ⟨hw, rfl⟩
  · rw [if_pos hw]
    refine .inl ?_
    have h1 := hv ⟨w, hC⟩
    unfold Oper.wp
    simp only at h1
    generalize (execOp a.eval o).run P w = r at *
    cases r with
    | halt x w' => exact h1.elim
    | ok x w' =>
      cases x <;> first
        | (obtain ⟨rfl, rfl⟩ := h1; exact h _ (Below.refl _ _) hC)
        | exact h1.elim
        | skip
      obtain ⟨rfl, h2⟩ := h1
      refine h2.mono ?_
      rintro e w'' ⟨rfl, hb⟩
      exact h _ hb (hCR _ _ hC hb)
  · rw [if_neg (by simp [hw])]
    exact h _ (Below.refl _ _) hC
theorem wpOp_put2 {j : Nat} {oi oj : Oper} {v : Value} (hj : ops[j]? = some oj) (hap : oi.apart ops oj = true)
    (hsi : ∀ cs b, oi.op ≠ .select cs b) (hsj : ∀ cs b, oj.op ≠ .select cs b)
    (hQ : ∀ c a w, Q (.panic c) (a.put oi.dst v) w → Q (.panic c) a w) {K : Act → World → Prop} {a : Act} {w : World}
    (hy : Yields2 P ops C oi v a) (h : wpOp P ops Q j K (a.put oi.dst v) w) :
    wpOp P ops Q j (fun a' w' => Yields2 P ops C oi v a' ∧ K (a'.put oi.dst v) w') a w := by
  obtain ⟨h1, h2, h3⟩ := Oper.apart_spec hap
  have keep : ∀ (a : Act), Yields2 P ops C oi v a → ∀ u, Yields2 P ops C oi v (a.put oj.dst u) := fun a hy u =>
    hy.of_same (execOp_put oi hsi a oj.dst u h3) (wanted_put oi a oj.dst u h3)
  have keepD : ∀ d, Yields2 P ops C oi v { a with defers := d :: a.defers } := fun d => hy.of_same rfl rfl
  have hd : ∀ d : Deferred, ({ a.put oi.dst v with defers := d :: (a.put oi.dst v).defers } : Act) = ({ a with defers := d :: a.defers } : Act).put oi.dst v := fun d => by cases oi.dst <;> rfl
  unfold wpOp at *
  simp only [hj] at *
  rw [wanted_put oj a oi.dst v h1] at h
  by_cases hw : Region.wanted oj (yielded ops a.tmps) = true
  · rw [if_pos hw] at h ⊢
    rcases h with h | ⟨hasks, hlets⟩
    case inr => exact .inr ⟨by unfold Oper.asks at *; rw [execOp_put oj hsj a oi.dst v h1] at hasks; exact hasks, hlets⟩
    refine .inl ?_
    unfold Oper.wp at *
    rw [execOp_put oj hsj a oi.dst v h1] at h
    generalize (execOp a.eval oj).run P w = r at *
    cases r with
    | halt x w' => cases x <;> first | exact hQ _ _ _ h | exact h.elim
    | ok x w' =>
      cases x with
      | value u => exact ⟨keep _ hy u, by rw [← Act.put_comm a v u h2]; exact h⟩
      | skip => exact ⟨keep _ hy _, by rw [← Act.put_comm a v undef h2]; exact h⟩
      | defer d =>
        refine ⟨keep _ (keepD d) _, ?_⟩
        have h' : K (({ a.put oi.dst v with defers := d :: (a.put oi.dst v).defers } : Act).put oj.dst undef) w' := h
        rw [hd d, Act.put_comm _ v undef h2] at h'
        exact h'
      | enter f args =>
        refine Calls.mono h ?_
        intro e w'' he
        cases e with
        | returned u => exact ⟨keep _ hy u, by rw [← Act.put_comm a v u h2]; exact he⟩
        | panicked c => exact hQ _ _ _ he
        | outgrown => exact he
      | row r args =>
        refine Rows.mono h ?_
        intro u w'' he
        exact ⟨keep _ hy u, by rw [← Act.put_comm a v u h2]; exact he⟩
      | _ => exact h.elim
  · rw [if_neg hw] at h ⊢
    exact ⟨keep _ hy _, by rw [← Act.put_comm a v undef h2]; exact h⟩
/-- The head of the region (its first n operations), f of which are still to come: whatever new blocks come about between two of them. -/
def wpE (P : Program) (md : Region.Mode) (ops : Array Oper) (Q : Exit → Act → World → Prop) (C : World → Prop) (n : Nat) (L : Array Bool → Act → World → Prop) : Nat → Array Bool → Act → World → Prop
  | 0, listed, a, W => ∀ W', Below W.heap.size W W' → C W' → L listed a W'
  | f + 1, listed, a, W => ∀ W', Below W.heap.size W W' → C W' → Region.ready md ops listed ≠ [] ∧ ∀ i ∈ Region.ready md ops listed, i < n ∧
      wpOp P ops Q i (fun a2 W2 => C W2 ∧ wpE P md ops Q C n L f (listed.setIfInBounds i true) a2 W2) a W'
variable {n : Nat} {L : Array Bool → Act → World → Prop}
theorem wpE.later {f : Nat} {listed : Array Bool} {a : Act} {W W1 : World} (h : wpE P md ops Q C n L f listed a W) (hb : Below W.heap.size W W1) : wpE P md ops Q C n L f listed a W1 := by
  cases f with
  | zero => exact fun W' hb' hC => h W' (hb.trans (hb'.mono hb.size)) hC
  | succ f => exact fun W' hb' hC => h W' (hb.trans (hb'.mono hb.size)) hC
theorem wpAny_of_wpE {g : Nat} (hL : ∀ listed a W, L listed a W → wpAny P md ops Q g listed a W) : ∀ (f : Nat) (listed : Array Bool) (a : Act) (W : World), C W → wpE P md ops Q C n L f listed a W → wpAny P md ops Q (f + g) listed a W
  | 0, listed, a, W, hC, h => by rw [Nat.zero_add]; exact hL _ _ _ (h W (Below.refl _ _) hC)
  | f + 1, listed, a, W, hC, h => by
    rw [show f + 1 + g = (f + g) + 1 by omega]
    obtain ⟨h1, h2⟩ := h W (Below.refl _ _) hC
    exact ⟨fun h0 => absurd h0 h1, fun i hi => wpOp_mono (fun a' w' h' => wpAny_of_wpE hL f _ a' w' h'.1 h'.2) (h2 i hi).2⟩
/-- While one of the first n is to come, none behind them may come up. -/
def Waits (md : Region.Mode) (ops : Array Oper) (n : Nat) : Prop := ∀ listed, HeadInv md ops n listed → ∀ i, i < n → listed.getD i true = false → ∀ j ∈ Region.ready md ops listed, j < n
theorem waits_tail (hs : Region.sinkB md ops n = true) (hc : Region.chainB md ops n = true) (hn : n < ops.size) : Waits md ops n := fun _ inv i hi hun j hj => by
  rcases Nat.lt_or_ge j n with h | h
  · exact h
  · exact absurd hj (tail_waits hs hc hn inv _ i rfl hi hun j h)
theorem waits_all (hn : n = ops.size) : Waits md ops n := fun _ _ _ _ _ j hj => by
  obtain ⟨_, o, ho, _⟩ := mem_ready.1 hj
  rw [hn]; exact (Array.getElem?_eq_some_iff.1 ho).1
theorem wpE_first (hCR : CR C) {i : Nat} {oi : Oper} {v : Value} (hi : ops[i]? = some oi) (hsel : ∀ (j : Nat) (o : Oper) cs b, ops[j]? = some o → o.op ≠ .select cs b) (hwt : Waits md ops n) (hin : i < n)
    (hQ : ∀ c a w, Q (.panic c) (a.put oi.dst v) w → Q (.panic c) a w)
    (hdone : ∀ listed a W, L listed a W → ∀ j ∈ Region.ready md ops listed, n ≤ j) :
    ∀ (f : Nat) (listed : Array Bool) (a : Act) (W : World), HeadInv md ops n listed →
      (∀ j oj, ops[j]? = some oj → j ≠ i → listed.getD j true = false → (∀ e ∈ oj.after, Region.binds md e = true → e.on ≠ i) → oi.apart ops oj = true) →
      i ∈ Region.ready md ops listed → Yields2 P ops C oi v a →
      wpE P md ops Q C n L f (listed.setIfInBounds i true) (a.put oi.dst v) W → wpE P md ops Q C n L (f + 1) listed a W := by
  intro f
  induction f with
  | zero =>
    intro listed a W inv _ hr hy H W' hb hC
    have hun := (mem_ready.1 hr).1
    refine ⟨fun h => (by rw [h] at hr; cases hr), fun j hj => ?_⟩
    refine ⟨hwt _ inv i hin hun j hj, ?_⟩
    by_cases hji : j = i
    · subst hji; exact hy.wpOp hCR hi hC fun W2 hb2 hC2 => ⟨hC2, wpE.later (wpE.later H hb) hb2⟩
    · have := hdone _ _ _ (H W' hb hC) j (ready_mono hj hji)
      have := hwt _ inv i hin hun j hj
      omega
  | succ f ih =>
    intro listed a W inv hfree hr hy H W' hb hC
    have hun := (mem_ready.1 hr).1
    refine ⟨fun h => (by rw [h] at hr; cases hr), fun j hj => ?_⟩
    have hjn := hwt _ inv i hin hun j hj
    refine ⟨hjn, ?_⟩
    by_cases hji : j = i
    · subst hji; exact hy.wpOp hCR hi hC fun W2 hb2 hC2 => ⟨hC2, wpE.later (wpE.later H hb) hb2⟩
    · have h1 := ((H W' hb hC).2 j (ready_mono hj hji)).2
      obtain ⟨hjun, oj, hoj, hall⟩ := mem_ready.1 hj
      have hnot : ∀ e ∈ oj.after, Region.binds md e = true → e.on ≠ i := fun e he hb heq => by
        have h1 := hall e he hb
        rw [heq, getD_both hun] at h1
        cases h1
      have h2 := wpOp_put2 hoj (hfree j oj hoj hji hjun hnot) (fun cs b => hsel i oi cs b hi) (fun cs b => hsel j oj cs b hoj) hQ hy h1
      have hfree' : ∀ k ok, ops[k]? = some ok → k ≠ i → (listed.setIfInBounds j true).getD k true = false →
          (∀ e ∈ ok.after, Region.binds md e = true → e.on ≠ i) → oi.apart ops ok = true := fun k ok hk hki hun hno => by
        refine hfree k ok hk hki ?_ hno
        by_cases hjk : j = k
        · subst hjk; exact hjun
        · rw [getD_set_ne true hjk] at hun; exact hun
      refine wpOp_mono (fun a' W2 h3 => ⟨h3.2.1, ih (listed.setIfInBounds j true) a' W2 (inv.set hj hjn) hfree' (ready_mono hr (Ne.symm hji)) h3.1 ?_⟩) h2
      rw [Array.setIfInBounds_comm _ _ hji]
      exact h3.2.2
/-- The order of the text: each operation leaves one value in every world of the class. -/
def wpQ2 (P : Program) (ops : Array Oper) (C : World → Prop) (K : Act → Prop) : List Oper → Act → Prop
  | [], a => K a
  | o :: rest, a => if Region.wanted o (yielded ops a.tmps) = true then ∃ v, (∀ x : Cls C, upon2 P x.1 v ((execOp a.eval o).run P x.1)) ∧ wpQ2 P ops C K rest (a.put o.dst v) else wpQ2 P ops C K rest (a.put o.dst undef)
theorem wpQ2_nil {K : Act → Prop} {a : Act} (h : K a) : wpQ2 P ops C K [] a := h
theorem wpQ2_step {K : Act → Prop} {a : Act} {o : Oper} {rest : List Oper}
    (h : ∀ K' : Act → Prop, (∀ a, wpQ2 P ops C K rest a → K' a) → if Region.wanted o (yielded ops a.tmps) = true then ∃ v, (∀ x : Cls C, upon2 P x.1 v ((execOp a.eval o).run P x.1)) ∧ K' (a.put o.dst v) else K' (a.put o.dst undef)) : wpQ2 P ops C K (o :: rest) a :=
  h _ (fun _ h => h)
theorem wpQ2_mono : ∀ (qs : List Oper) (a : Act) {K K' : Act → Prop}, (∀ a, K a → K' a) → wpQ2 P ops C K qs a → wpQ2 P ops C K' qs a
  | [], _, _, _, hk, h => hk _ h
  | o :: qs, a, K, K', hk, h => by
    simp only [wpQ2] at h ⊢
    split
    · rename_i hw; rw [if_pos hw] at h; obtain ⟨v, h1, h2⟩ := h; exact ⟨v, h1, wpQ2_mono qs _ hk h2⟩
    · rename_i hw; rw [if_neg hw] at h; exact wpQ2_mono qs _ hk h
def markAll : List Nat → Array Bool → Array Bool
  | [], l => l
  | i :: is, l => markAll is (l.setIfInBounds i true)
def takesB (md : Region.Mode) (ops : Array Oper) (n : Nat) : List Nat → Array Bool → Bool
  | [], _ => true
  | i :: is, listed => decide (i < n) && (Region.ready md ops listed).contains i && Region.free md ops listed i && takesB md ops n is (listed.setIfInBounds i true)
theorem wpE_takes (hCR : CR C) (hs : Region.noSelect ops = true) (hwt : Waits md ops n) (hQ : ∀ c a (d : Option Tmp) v w, Q (.panic c) (a.put d v) w → Q (.panic c) a w)
    (hdone : ∀ listed a W, L listed a W → ∀ j ∈ Region.ready md ops listed, n ≤ j) {f : Nat} {W : World} :
    ∀ (is : List Nat) (l : List Oper) (listed : Array Bool) (a : Act), is.map (fun i => ops[i]?) = l.map some → HeadInv md ops n listed → takesB md ops n is listed = true →
      wpQ2 P ops C (fun a' => HeadInv md ops n (markAll is listed) → wpE P md ops Q C n L f (markAll is listed) a' W) l a → wpE P md ops Q C n L (is.length + f) listed a W
  | [], [], listed, a, _, inv, _, h => by rw [List.length_nil, Nat.zero_add]; exact h inv
  | [], _ :: _, _, _, hm, _, _, _ => by cases hm
  | _ :: _, [], _, _, hm, _, _, _ => by cases hm
  | i :: is, o :: l, listed, a, hm, inv, hB, h => by
    simp only [List.map_cons, List.cons.injEq] at hm
    simp only [takesB, Bool.and_eq_true, decide_eq_true_eq] at hB
    obtain ⟨⟨⟨hin, hr⟩, hf⟩, hB'⟩ := hB
    have hr' : i ∈ Region.ready md ops listed := by simpa using hr
    have hy : ∃ v, Yields2 P ops C o v a ∧ wpQ2 P ops C (fun a' => HeadInv md ops n (markAll (i :: is) listed) → wpE P md ops Q C n L f (markAll (i :: is) listed) a' W) l (a.put o.dst v) := by
      simp only [wpQ2] at h
      by_cases hw : Region.wanted o (yielded ops a.tmps) = true
      · rw [if_pos hw] at h
        obtain ⟨v, h1, h2⟩ := h
        exact ⟨v, .inl ⟨hw, h1⟩, h2⟩
      · rw [if_neg hw] at h
        exact ⟨undef, .inr ⟨by simpa using hw, rfl⟩, h⟩
    obtain ⟨v, hy, hK⟩ := hy
    rw [List.length_cons, show is.length + 1 + f = (is.length + f) + 1 by omega]
    exact wpE_first hCR hm.1 (Region.noSelect_spec hs) hwt hin (fun c a w => hQ c a _ v w) hdone _ listed a W inv (Region.free_spec hm.1 hf) hr' hy
      (wpE_takes hCR hs hwt hQ hdone is l _ _ hm.2 (inv.set hr' hin) hB' hK)
/-- One operation alone may come up. -/
theorem wpE_one {i f : Nat} {o : Oper} {listed : Array Bool} {a : Act} {W : World} (hr : Region.ready md ops listed = [i]) (hin : i < n) (ho : ops[i]? = some o)
    (h : ∀ W', Below W.heap.size W W' → C W' → ∀ K : Act → World → Prop, (∀ a2 W2, C W2 → wpE P md ops Q C n L f (listed.setIfInBounds i true) a2 W2 → K a2 W2) → if Region.wanted o (yielded ops a.tmps) = true then Oper.wp P o a W' K Q else K (a.put o.dst undef) W') :
    wpE P md ops Q C n L (f + 1) listed a W := fun W' hb hC => by
  refine ⟨by rw [hr]; simp, fun j hj => ?_⟩
  rw [hr] at hj
  obtain rfl : j = i := by simpa using hj
  exact ⟨hin, wpOp_step ho fun K' hK => h W' hb hC K' fun a2 W2 hC2 h2 => hK a2 W2 ⟨hC2, h2⟩⟩
/-- Two operations may come up. -/
theorem wpE_two {i i' f : Nat} {o o' : Oper} {listed : Array Bool} {a : Act} {W : World} (hr : Region.ready md ops listed = [i, i']) (hin : i < n) (hin' : i' < n) (ho : ops[i]? = some o) (ho' : ops[i']? = some o')
    (h : ∀ W', Below W.heap.size W W' → C W' → ∀ K : Act → World → Prop, (∀ a2 W2, C W2 → wpE P md ops Q C n L f (listed.setIfInBounds i true) a2 W2 → K a2 W2) → if Region.wanted o (yielded ops a.tmps) = true then Oper.wp P o a W' K Q else K (a.put o.dst undef) W')
    (h' : ∀ W', Below W.heap.size W W' → C W' → ∀ K : Act → World → Prop, (∀ a2 W2, C W2 → wpE P md ops Q C n L f (listed.setIfInBounds i' true) a2 W2 → K a2 W2) → if Region.wanted o' (yielded ops a.tmps) = true then Oper.wp P o' a W' K Q else K (a.put o'.dst undef) W') :
    wpE P md ops Q C n L (f + 1) listed a W := fun W' hb hC => by
  refine ⟨by rw [hr]; simp, fun j hj => ?_⟩
  rw [hr] at hj
  rcases (by simpa using hj : j = i ∨ j = i') with rfl | rfl
  · exact ⟨hin, wpOp_step ho fun K' hK => h W' hb hC K' fun a2 W2 hC2 h2 => hK a2 W2 ⟨hC2, h2⟩⟩
  · exact ⟨hin', wpOp_step ho' fun K' hK => h' W' hb hC K' fun a2 W2 hC2 h2 => hK a2 W2 ⟨hC2, h2⟩⟩
theorem headInv0 (hn : n ≤ ops.size) : HeadInv md ops n (Array.replicate ops.size false) :=
  ⟨by simp, fun j oj _ hl => (by rw [getD_replicate_false] at hl; cases hl), fun t _ ht => getD_in (by simpa using ht) (getD_replicate_false _ _)⟩
/-- What stands behind the head: the tail, in its one order. -/
def Tail (P : Program) (ops : Array Oper) (Q : Exit → Act → World → Prop) (n : Nat) (tail : List Oper) (listed : Array Bool) (a : Act) (W : World) : Prop := Region.seqB .any ops (ops.size - n) n listed = true ∧ wpList P ops Q tail a W
theorem wpE_tail {tail : List Oper} {listed : Array Bool} {a : Act} {W : World} (hB : Region.seqB .any ops (ops.size - n) n listed = true) (h : ∀ W', Below W.heap.size W W' → C W' → wpList P ops Q tail a W') :
    wpE P .any ops Q C n (Tail P ops Q n tail) 0 listed a W := fun W' hb hC => ⟨hB, h W' hb hC⟩
def headB (ops : Array Oper) (n : Nat) : Bool := Region.noSelect ops && (decide (n = ops.size) || (decide (n < ops.size) && Region.sinkB .any ops n && Region.chainB .any ops n))
theorem headB_waits (h : headB ops n = true) : Region.noSelect ops = true ∧ n ≤ ops.size ∧ Waits .any ops n := by
  simp only [headB, Bool.and_eq_true, Bool.or_eq_true, decide_eq_true_eq] at h
  obtain ⟨h1, h2 | ⟨⟨h2, h3⟩, h4⟩⟩ := h
  · exact ⟨h1, Nat.le_of_eq h2, waits_all h2⟩
  · exact ⟨h1, Nat.le_of_lt h2, waits_tail h3 h4 h2⟩
theorem region_any_E {l : List Oper} {a : Act} {w : World} (hn : n ≤ l.length) (hC : C w) (h : wpE P .any l.toArray Q C n (Tail P l.toArray Q n (l.drop n)) n (Array.replicate l.toArray.size false) a w) :
    wpAny P .any l.toArray Q l.toArray.size (Array.replicate l.toArray.size false) a w := by
  have hdl : (l.drop n).length = l.toArray.size - n := by simp
  have := wpAny_of_wpE (Q := Q) (g := l.toArray.size - n) (fun listed a' W hL => by
    have := wpAny_of_seq (md := .any) (Q' := Q) (l.drop n) n listed a' W (fun j => by simp [List.getElem?_drop]) (by rw [hdl]; exact hL.1) hL.2
    rwa [hdl] at this) n _ _ _ hC h
  rw [show n + (l.toArray.size - n) = l.toArray.size by simp; omega] at this
  exact this
/-- **The law**: the operations 'is' of the head are taken first, in the order of the text ('qs'); what is left of the head, then the tail. -/
theorem wpAny_E (n : Nat) (is : List Nat) (qs : List Oper) (f : Nat) {l : List Oper} {a : Act} {w : World} (hB : headB l.toArray n = true) (hCR : CR C) (hC : C w) (hQ : ∀ c a (d : Option Tmp) v w, Q (.panic c) (a.put d v) w → Q (.panic c) a w)
    (hf : is.length + f = n) (hqs : is.map (fun i => l.toArray[i]?) = qs.map some) (hT : takesB .any l.toArray n is (Array.replicate l.toArray.size false) = true)
    (h : wpQ2 P l.toArray C (fun a' => wpE P .any l.toArray Q C n (Tail P l.toArray Q n (l.drop n)) f (markAll is (Array.replicate l.toArray.size false)) a' w) qs a) :
    wpAny P .any l.toArray Q l.toArray.size (Array.replicate l.toArray.size false) a w := by
  obtain ⟨h1, h2, h3⟩ := headB_waits hB
  refine region_any_E (by simpa using h2) hC ?_
  rw [← hf] at *
  refine wpE_takes hCR h1 h3 hQ (fun listed a W hL j hj => seqB_ready hL.1 j hj) is qs _ a hqs (headInv0 h2) hT ?_
  exact wpQ2_mono qs a (fun a h _ => h) h
theorem region_E (n : Nat) (is : List Nat) (qs : List Oper) (f : Nat) {id : Nat} {l : List Oper} {a : Act} {w : World} (C : World → Prop) (hm : P.follows .mixedOrders = true) (hB : headB l.toArray n = true)
    (hf : is.length + f = n) (hqs : is.map (fun i => l.toArray[i]?) = qs.map some) (hT : takesB .any l.toArray n is (Array.replicate l.toArray.size false) = true)
    (hQ : ∀ c a (d : Option Tmp) v w, Q (.panic c) (a.put d v) w → Q (.panic c) a w) (hCR : CR C) (hC : C w.drew)
    (h : wpQ2 P l.toArray C (fun a' => wpE P .any l.toArray Q C n (Tail P l.toArray Q n (l.drop n)) f (markAll is (Array.replicate l.toArray.size false)) a' w.drew) qs a) : (Code.region id l.toArray true).wp P Q a w :=
  wp_region_any hm (wpAny_E n is qs f hB hCR hC hQ hf hqs hT h)
theorem round_region_E {l0 m : Nat} (n : Nat) (is : List Nat) (qs : List Oper) (f : Nat) {id : Nat} {l : List Oper} {a : Act} {w : World} (C : World → Prop) (hn : noDefers l.toArray = true) (hq : ¬ LetsOut Q) (hm : P.follows .mixedOrders = true) (hB : headB l.toArray n = true)
    (hf : is.length + f = n) (hqs : is.map (fun i => l.toArray[i]?) = qs.map some) (hT : takesB .any l.toArray n is (Array.replicate l.toArray.size false) = true)
    (hQ : ∀ c a (d : Option Tmp) v w, Q (.panic c) (a.put d v) w → Q (.panic c) a w) (hCR : CR C) (hC : C w.drew)
    (h : wpQ2 P l.toArray C (fun a' => wpE P .any l.toArray Q C n (Tail P l.toArray Q n (l.drop n)) f (markAll is (Array.replicate l.toArray.size false)) a' w.drew) qs a) : (Code.region id l.toArray true).wpIn (Fence.wide.inRound l0) m P Q a w :=
  round_region_any hn hq hm (wpAny_E n is qs f hB hCR hC hQ hf hqs hT h)
end
/-- All that was there lies as it lay. -/
def Ext2 (w W : World) : Prop := Below w.heap.size w W
theorem below_alloc' (w : World) (o : Obj) : Below w.heap.size w (w.alloc o) := (Below.refl _ _).alloc (Nat.le_refl _) o
theorem Ext2.cr (w : World) : CR (Ext2 w) := fun _ _ h hb => Below.trans h (hb.mono h.size)
theorem Ext2.drew (w : World) : Ext2 w w.drew := (Below.refl _ _).drew
theorem Ext2.refl (w : World) : Ext2 w w := Below.refl _ _
instance instCls (w : World) : Nonempty (Cls (Ext2 w)) := ⟨⟨w, Below.refl _ _⟩⟩
theorem Ext2.on {w T W : World} (h : Ext2 T W) (hT : Below w.heap.size w T) : Below w.heap.size w W := hT.trans (Below.mono h hT.size)
theorem Ext2.size {w W : World} (h : Ext2 w W) : w.heap.size ≤ W.heap.size := Below.size h
/-- What stands in a cell that is not known to have been there. -/
def farCell (W : World) (a : Addr) : Option Value := W.cell? a
def farFrozen (W : World) (a : Addr) : Bool := W.frozen? a
theorem Ext2.cell {w W : World} (h : Ext2 w W) (a : Addr) : W.cell? a = (w.cell? a).or (farCell W a) := by
  cases hc : w.cell? a with
  | none => rfl
  | some v => rw [Option.some_or, ← hc]; exact Below.cell h (World.block_lt_of_cell? w a hc)
theorem Ext2.frozen {w W : World} (h : Ext2 w W) (a : Addr) : W.frozen? a = if (w.cell? a).isSome then w.frozen? a else farFrozen W a := by
  cases hc : w.cell? a with
  | none => rfl
  | some v => exact Below.frozen h (World.block_lt_of_cell? w a hc)
theorem cls_cell {w : World} (x : Cls (Ext2 w)) (a : Addr) : x.1.cell? a = (w.cell? a).or (farCell x.1 a) := Ext2.cell x.2 a
theorem cls_frozen {w : World} (x : Cls (Ext2 w)) (a : Addr) : x.1.frozen? a = if (w.cell? a).isSome then w.frozen? a else farFrozen x.1 a := Ext2.frozen x.2 a
theorem wp_name {P : Program} {c : Code} {Q : Exit → Act → World → Prop} {a : Act} {w : World} (h : ∀ w0, w0 = w → c.wp P Q a w0) : c.wp P Q a w := h w rfl
theorem wpIn_name {F : Fence} {n : Nat} {P : Program} {c : Code} {Q : Exit → Act → World → Prop} {a : Act} {w : World} (h : ∀ w0, w0 = w → c.wpIn F n P Q a w0) : c.wpIn F n P Q a w := h w rfl
section
variable {P : Program} {Q : Exit → Act → World → Prop}
def takeB (ops : Array Oper) (n : Nat) : Bool := headB ops n && takesB .any ops n (List.range n) (Array.replicate ops.size false) && Region.seqB .any ops (ops.size - n) n (markAll (List.range n) (Array.replicate ops.size false))
theorem range_map (l : List Oper) : ∀ (n k : Nat), k + n ≤ l.length → (List.range' k n).map (fun i => l.toArray[i]?) = ((l.drop k).take n).map some
  | 0, k, _ => by simp
  | n + 1, k, h => by
    have h1 : k < l.length := by omega
    rw [List.range'_succ, List.map_cons, range_map l n (k + 1) (by omega), List.drop_eq_getElem_cons h1, List.take_succ_cons, List.map_cons]
    congr 1
    simp [h1]
theorem wpAny_take (n : Nat) {l : List Oper} {a : Act} {w : World} (hB : takeB l.toArray n = true) (hQ : ∀ c a (d : Option Tmp) v w, Q (.panic c) (a.put d v) w → Q (.panic c) a w)
    (h : wpQ2 P l.toArray (Ext2 w) (fun a' => ∀ W', Ext2 w W' → wpList P l.toArray Q (l.drop n) a' W') (l.take n) a) :
    wpAny P .any l.toArray Q l.toArray.size (Array.replicate l.toArray.size false) a w.drew := by
  simp only [takeB, Bool.and_eq_true] at hB
  obtain ⟨⟨h1, h2⟩, h3⟩ := hB
  have hn : n ≤ l.length := by have := (headB_waits h1).2.1; simpa using this
  refine wpAny_E (C := Ext2 w) n (List.range n) (l.take n) 0 h1 (Ext2.cr w) (Ext2.drew w) hQ (by simp) ?_ h2 ?_
  · have := range_map l n 0 (by omega)
    rw [List.range_eq_range']; simpa using this
  · have mono : ∀ (qs : List Oper) (a : Act) {K K' : Act → Prop}, (∀ a, K a → K' a) → wpQ2 P l.toArray (Ext2 w) K qs a → wpQ2 P l.toArray (Ext2 w) K' qs a := fun qs a _ _ hk h => wpQ2_mono qs a hk h
    exact mono _ _ (fun a' h4 => wpE_tail h3 fun W' _ hC => h4 W' hC) h
theorem region_take (n : Nat) {id : Nat} {l : List Oper} {a : Act} {w : World} (hm : P.follows .mixedOrders = true) (hB : takeB l.toArray n = true) (hQ : ∀ c a (d : Option Tmp) v w, Q (.panic c) (a.put d v) w → Q (.panic c) a w)
    (h : wpQ2 P l.toArray (Ext2 w) (fun a' => ∀ W', Ext2 w W' → wpList P l.toArray Q (l.drop n) a' W') (l.take n) a) : (Code.region id l.toArray true).wp P Q a w :=
  wp_region_any hm (wpAny_take n hB hQ h)
theorem round_region_take {l0 m : Nat} (n : Nat) {id : Nat} {l : List Oper} {a : Act} {w : World} (hn : noDefers l.toArray = true) (hq : ¬ LetsOut Q) (hm : P.follows .mixedOrders = true) (hB : takeB l.toArray n = true) (hQ : ∀ c a (d : Option Tmp) v w, Q (.panic c) (a.put d v) w → Q (.panic c) a w)
    (h : wpQ2 P l.toArray (Ext2 w) (fun a' => ∀ W', Ext2 w W' → wpList P l.toArray Q (l.drop n) a' W') (l.take n) a) : (Code.region id l.toArray true).wpIn (Fence.wide.inRound l0) m P Q a w :=
  round_region_any hn hq hm (wpAny_take n hB hQ h)
/-- One operation of the head, number j, makes a block; all others are taken first. -/
def skipB (ops : Array Oper) (n j : Nat) : Bool := headB ops n && decide (j < n) && takesB .any ops n (List.range j ++ List.range' (j + 1) (n - 1 - j)) (Array.replicate ops.size false) &&
  (Region.ready .any ops (markAll (List.range j ++ List.range' (j + 1) (n - 1 - j)) (Array.replicate ops.size false)) == [j]) && Region.seqB .any ops (ops.size - n) n ((markAll (List.range j ++ List.range' (j + 1) (n - 1 - j)) (Array.replicate ops.size false)).setIfInBounds j true)
theorem wpAny_skip (n j : Nat) {l : List Oper} {a : Act} {w : World} (o : Oper) (d : Nat) (ob : Obj) (ho : l[j]? = some o) (hg : o.guard = none) (hd : o.dst = some d) (hal : ∀ (ρ : Operand → Value) (W : World), (execOp ρ o).run P W = .ok (.value (.pointer (some ⟨W.heap.size, 0, none⟩))) (W.alloc ob))
    (hB : skipB l.toArray n j = true) (hQ : ∀ c a (d : Option Tmp) v w, Q (.panic c) (a.put d v) w → Q (.panic c) a w)
    (h : wpQ2 P l.toArray (Ext2 w) (fun a' => ∀ b W', w.heap.size ≤ b → Ext2 w W' → W'.heap[b]? = some ob → wpList P l.toArray Q (l.drop n) (a'.put (some d) (.pointer (some ⟨b, 0, none⟩))) W') (l.take j ++ (l.drop (j + 1)).take (n - 1 - j)) a) :
    wpAny P .any l.toArray Q l.toArray.size (Array.replicate l.toArray.size false) a w.drew := by
  simp only [skipB, Bool.and_eq_true, decide_eq_true_eq, beq_iff_eq] at hB
  obtain ⟨⟨⟨⟨h1, hj⟩, h2⟩, hr⟩, h3⟩ := hB
  have hn : n ≤ l.length := by have := (headB_waits h1).2.1; simpa using this
  refine wpAny_E (C := Ext2 w) n (List.range j ++ List.range' (j + 1) (n - 1 - j)) (l.take j ++ (l.drop (j + 1)).take (n - 1 - j)) 1 h1 (Ext2.cr w) (Ext2.drew w) hQ (by simp; omega) ?_ h2 ?_
  · have e1 := range_map l j 0 (by omega)
    have e2 := range_map l (n - 1 - j) (j + 1) (by omega)
    rw [List.drop_zero] at e1
    rw [List.map_append, List.map_append, List.range_eq_range', e1, e2]
  · refine wpQ2_mono _ _ (fun a' h4 => ?_) h
    have ho' : l.toArray[j]? = some o := by simpa using ho
    refine wpE_one hr hj ho' fun W' _ hC K hK => ?_
    have hw : Region.wanted o (yielded l.toArray a'.tmps) = true := by simp [Region.wanted, hg]
    rw [if_pos hw]
    unfold Oper.wp
    rw [hal, Oper.upon_value, hd]
    refine hK _ _ (Ext2.cr w _ _ hC (below_alloc' W' ob)) ?_
    refine wpE_tail h3 fun W3 hb3 hC3 => h4 W'.heap.size W3 hC.size hC3 ?_
    have e := World.alloc_heap_new W' ob
    exact (hb3.block _ (by simp)).trans e
theorem region_skip (n j : Nat) {id : Nat} {l : List Oper} {a : Act} {w : World} (o : Oper) (d : Nat) (ob : Obj) (ho : l[j]? = some o) (hg : o.guard = none) (hd : o.dst = some d) (hal : ∀ (ρ : Operand → Value) (W : World), (execOp ρ o).run P W = .ok (.value (.pointer (some ⟨W.heap.size, 0, none⟩))) (W.alloc ob))
    (hm : P.follows .mixedOrders = true) (hB : skipB l.toArray n j = true) (hQ : ∀ c a (d : Option Tmp) v w, Q (.panic c) (a.put d v) w → Q (.panic c) a w)
    (h : wpQ2 P l.toArray (Ext2 w) (fun a' => ∀ b W', w.heap.size ≤ b → Ext2 w W' → W'.heap[b]? = some ob → wpList P l.toArray Q (l.drop n) (a'.put (some d) (.pointer (some ⟨b, 0, none⟩))) W') (l.take j ++ (l.drop (j + 1)).take (n - 1 - j)) a) :
    (Code.region id l.toArray true).wp P Q a w := wp_region_any hm (wpAny_skip n j o d ob ho hg hd hal hB hQ h)
theorem round_region_skip {l0 m : Nat} (n j : Nat) {id : Nat} {l : List Oper} {a : Act} {w : World} (o : Oper) (d : Nat) (ob : Obj) (ho : l[j]? = some o) (hg : o.guard = none) (hd : o.dst = some d) (hal : ∀ (ρ : Operand → Value) (W : World), (execOp ρ o).run P W = .ok (.value (.pointer (some ⟨W.heap.size, 0, none⟩))) (W.alloc ob))
    (hn : noDefers l.toArray = true) (hq : ¬ LetsOut Q) (hm : P.follows .mixedOrders = true) (hB : skipB l.toArray n j = true) (hQ : ∀ c a (d : Option Tmp) v w, Q (.panic c) (a.put d v) w → Q (.panic c) a w)
    (h : wpQ2 P l.toArray (Ext2 w) (fun a' => ∀ b W', w.heap.size ≤ b → Ext2 w W' → W'.heap[b]? = some ob → wpList P l.toArray Q (l.drop n) (a'.put (some d) (.pointer (some ⟨b, 0, none⟩))) W') (l.take j ++ (l.drop (j + 1)).take (n - 1 - j)) a) :
    (Code.region id l.toArray true).wpIn (Fence.wide.inRound l0) m P Q a w := round_region_any hn hq hm (wpAny_skip n j o d ob ho hg hd hal hB hQ h)
end
end Go.Proofs.YtfpaihjcbpaneaaGreatDoor
