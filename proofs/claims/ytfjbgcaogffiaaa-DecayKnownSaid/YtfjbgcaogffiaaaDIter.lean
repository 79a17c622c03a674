/-
  A range over a function: the iterator by what it does between two rounds, the loop by what stands before and behind each round.
-/
import Derived.Test.YtfjbgcaogffiaaaDOwn
import Derived.RangeFuncNested
import Derived.RangeFuncLeaves
import Derived.OwnWalkIn
import Derived.TacticsInMore
import Derived.LoopNIn
import Derived.LoopIn
namespace Go.Proofs.Ytfjbgcaogffiaaa
open Go.RowKit
set_option linter.unusedVariables false
section
variable {P : Program}
theorem calls_of_wp_marks {f : FuncId} {fn : Func} {c : Code} {args : Array Value} {w : World} {R : Ending → World → Prop} (hf : P.funcs[f]? = some fn) (hb : fn.body = some c)
    (h : c.wp P (bodyPostM Fence.wide 0 P fn R) { tmps := args ++ Array.replicate (fn.ntmps - args.size) undef, defers := [] } w) : Calls P f args w R :=
  callsIn_wide.1 (callsIn_of_wp_marks (n := 0) hf hb trivial (wpIn_wide.2 h))
/-- An iterator: N yields at most, of enc 0, enc 1, ..; between the rounds k and k + 1 it does Step k. -/
def IterR (P : Program) (gf : Nat) (lb : Array Value) (N : Nat) (enc : Nat → Array Value) (Step : Nat → World → World → Prop) (Pre : Nat → World → Prop) (Pre0 : World → Prop) : Prop :=
  ∀ (l : Nat) (I M X : Nat → World → Prop) (W : World), Pre0 W →
    (∀ k W1, k < N → I k W1 → YieldAt Fence.wide 0 P l (enc k) W1 fun e W' => (e = .returned (.bool true) ∧ M k W') ∨ (e = .returned (.bool false) ∧ X k W')) →
    (∀ k W1, k < N → M k W1 → Pre k W1) → (∀ k W1 W2, k + 1 < N → M k W1 → Step k W1 W2 → I (k + 1) W2) → I 0 W →
    CallsIn Fence.wide 0 P gf (#[.func (.yield l) #[] #[]] ++ lb) W fun e W' => (∃ v, e = .returned v) ∧ ((N = 0 ∧ I 0 W') ∨ (∃ j, j + 1 = N ∧ M j W') ∨ ∃ k, k < N ∧ X k W')
def rEnd (M : Nat → World → Prop) (Ix : Code → Nat → World → Prop) (k : Nat) (W : World) : Exit → Act → World → Prop
  | .normal, _, W' => KeepsOthers W W' ∧ M k W'
  | .ret, _, W' => KeepsOthers W W' ∧ Ix .ret k W'
  | .exit id, _, W' => KeepsOthers W W' ∧ Ix (.exit id) k W'
  | .goto t, _, W' => KeepsOthers W W' ∧ Ix (.goto t) k W'
  | .panic _, _, _ => False
  | .outgrown, _, _ => False
/-- What the loop's record turns into leaves a predicate on cells alone as it was. -/
structure Rounds (B : Nat) (I M : Nat → World → Prop) (J : Nat → Act → World → Prop) (Ix : Code → Nat → World → Prop) : Prop where
  i : OwnFrom B I
  m : OwnFrom B M
  j : ∀ a, OwnFrom B (fun k W => J k a W)
  x : ∀ c, OwnFrom B (Ix c)
theorem rf_core {gf : Nat} {lb : Array Value} {N : Nat} {enc : Nat → Array Value} {Step : Nat → World → World → Prop} {Pre : Nat → World → Prop} {Pre0 : World → Prop} (hit : IterR P gf lb N enc Step Pre Pre0)
    {fn : FuncId} {tmps : Array Value} {ps : Array Tmp} {assign body : Code} {df B L : Nat} {rec : LoopState → Option Code → Loop} (hrec : rec = fun st pe => { state := st, pending := pe, fn, tmps, params := ps, assign, body, defers := df })
    (hps : ∀ k, (enc k).size = ps.size) {I M : Nat → World → Prop} {J : Nat → Act → World → Prop} {Ix : Code → Nat → World → Prop} (hR : Rounds B I M J Ix) (hBL : B ≤ L)
    (hMP : ∀ k W, k < N → M k W → Pre k W) (hstep : ∀ k W1 W2, k + 1 < N → M k W1 → Step k W1 W2 → KeepsOthers W1 W2 ∧ I (k + 1) W2)
    (hassign : ∀ (l k : Nat) (W : World), k < N → I k W → assign.wpIn (Fence.wide.inRound l) 0 P (Exit.then (fun a' W' => KeepsOthers W W' ∧ J k a' W') (fun _ _ _ => False)) { tmps := (ps.zip (enc k)).foldl (fun t (p, v) => t.setIfInBounds p v) tmps, defers := [] } W)
    (hbody : ∀ (l k : Nat) (a' : Act) (W : World), B ≤ l → (∃ r, W.heap[l]? = some (.loop r)) → k < N → J k a' W → body.wpIn (Fence.wide.inRound l) 0 P (rEnd M Ix k W) a' W)
    {G : World → Prop} (hG1 : ∀ W W', G W → KeepsOthers W W' → G W') (hG2 : ∀ W o, G W → G (W.putObj L o))
    {W1 : World} (hL : W1.heap[L]? = some (.loop (rec .ready none))) (hg : G W1) (h0 : I 0 W1) (hp0 : Pre0 W1) :
    CallsIn Fence.wide 0 P gf (#[.func (.yield L) #[] #[]] ++ lb) W1 fun e W' => (∃ v, e = .returned v) ∧ ((((N = 0 ∧ I 0 W') ∨ ∃ j, j + 1 = N ∧ M j W') ∧ W'.heap[L]? = some (.loop (rec .ready none)) ∧ G W') ∨ (∃ k c, k < N ∧ Ix c k W' ∧ W'.heap[L]? = some (.loop (rec .done (some c))) ∧ G W')) := by
  refine (hit L (fun k W => I k W ∧ W.heap[L]? = some (.loop (rec .ready none)) ∧ G W) (fun k W => M k W ∧ W.heap[L]? = some (.loop (rec .ready none)) ∧ G W) (fun k W => ∃ c, Ix c k W ∧ W.heap[L]? = some (.loop (rec .done (some c))) ∧ G W) W1 hp0 ?_ (fun k W hk hm => hMP k W hk hm.1)
    (fun k Wa Wb hk hm hs => ?_) ⟨h0, hL, hg⟩).mono ?_
  · rintro k W hk ⟨hi, hl, hgW⟩
    have hlt : L < W.heap.size := (Array.getElem?_eq_some_iff.1 hl).1
    have hy := run_yield (P := P) (args := enc k) hl (by rw [hrec]; exact hps k)
    rw [hrec] at hy
    refine ⟨fn, _, assign, body, hy, roundIn_of_wpIn trivial (wpIn_mono (hassign L k W hk hi) ?_)⟩
    clear hy
    rintro e a' Wa hq
    cases e with
    | normal =>
      obtain ⟨hka, hj⟩ := hq
      replace hl := hka.same _ _ hl rfl
      replace hgW := hG1 _ _ hgW hka
      replace hlt : L < Wa.heap.size := (Array.getElem?_eq_some_iff.1 hl).1
      refine ⟨_, run_beginRound hl (by rw [hrec]), ?_⟩
      have hl2 : (Wa.putObj L (.loop { rec .ready none with state := .busy })).heap[L]? = some (.loop { rec .ready none with state := .busy }) := World.putObj_heap_same hlt
      have hg2 := hG2 Wa (.loop { rec .ready none with state := .busy }) hgW
      refine wpIn_mono (hbody L k a' _ hBL ⟨_, hl2⟩ hk ((hR.j a').putObj (s := k) _ hj hBL hl rfl)) ?_
      have fin : ∀ (jump : Option Code) (W3 : World), KeepsOthers (Wa.putObj L (.loop { rec .ready none with state := .busy })) W3 →
          (Instr.endRound L jump).run P W3 = .ok (.bool jump.isNone) (W3.putObj L (.loop (rec (if jump.isNone then .ready else .done) jump))) ∧
          W3.heap[L]? = some (.loop { rec .ready none with state := .busy }) ∧
          (W3.putObj L (.loop (rec (if jump.isNone then .ready else .done) jump))).heap[L]? = some (.loop (rec (if jump.isNone then .ready else .done) jump)) ∧
          G (W3.putObj L (.loop (rec (if jump.isNone then .ready else .done) jump))) := fun jump W3 hk3 => by
        have hl3 := hk3.same _ _ hl2 rfl
        have := run_endRound (P := P) jump hl3
        rw [hrec] at this ⊢
        exact ⟨this, by rw [hrec] at hl3; exact hl3, World.putObj_heap_same (Array.getElem?_eq_some_iff.1 hl3).1, hG2 _ _ (hG1 _ _ hg2 hk3)⟩
      rintro e a3 W3 hp
      cases e with
      | normal =>
        obtain ⟨hk3, hi3⟩ := hp
        obtain ⟨hr, hl3, hl4, hk4⟩ := fin none W3 hk3
        exact ⟨_, _, hr, .inl ⟨rfl, hR.m.putObj _ hi3 hBL hl3 rfl, hl4, hk4⟩⟩
      | ret =>
        obtain ⟨hk3, hi3⟩ := hp
        obtain ⟨hr, hl3, hl4, hk4⟩ := fin (some .ret) W3 hk3
        exact ⟨_, _, hr, .inr ⟨rfl, .ret, (hR.x _).putObj _ hi3 hBL hl3 rfl, hl4, hk4⟩⟩
      | exit id =>
        obtain ⟨hk3, hi3⟩ := hp
        obtain ⟨hr, hl3, hl4, hk4⟩ := fin (some (.exit id)) W3 hk3
        exact ⟨_, _, hr, .inr ⟨rfl, .exit id, (hR.x _).putObj _ hi3 hBL hl3 rfl, hl4, hk4⟩⟩
      | goto t =>
        obtain ⟨hk3, hi3⟩ := hp
        obtain ⟨hr, hl3, hl4, hk4⟩ := fin (some (.goto t)) W3 hk3
        exact ⟨_, _, hr, .inr ⟨rfl, .goto t, (hR.x _).putObj _ hi3 hBL hl3 rfl, hl4, hk4⟩⟩
      | panic ch => exact hp.elim
      | outgrown => exact hp.elim
    | _ => exact hq.elim
  · obtain ⟨hk', hi'⟩ := hstep k Wa Wb hk hm.1 hs
    exact ⟨hi', hk'.same _ _ hm.2.1 rfl, hG1 _ _ hm.2.2 hk'⟩
  · rintro e W' ⟨hv, h⟩
    refine ⟨hv, ?_⟩
    rcases h with ⟨hN, h1, h2, h3⟩ | ⟨j, hj, h1, h2, h3⟩ | ⟨k, hk, c, h1, h2, h3⟩
    · exact .inl ⟨.inl ⟨hN, h1⟩, h2, h3⟩
    · exact .inl ⟨.inr ⟨j, hj, h1⟩, h2, h3⟩
    · exact .inr ⟨k, c, hk, h1, h2, h3⟩
/-- The loop in a function's own code. -/
theorem rf_out {g : Operand} {ps : Array Tmp} {assign body : Code} {Q : Exit → Act → World → Prop} {a : Act} {w : World} {gf : Nat} {lb : Array Value} (hg : a.eval g = .func (.func gf) #[] lb) (eg : ∀ args w, (callFunc gf args).run P w = .ok (.enter gf args) w)
    {N : Nat} {enc : Nat → Array Value} {Step : Nat → World → World → Prop} {Pre : Nat → World → Prop} {Pre0 : World → Prop} (hit : IterR P gf lb N enc Step Pre Pre0) (hps : ∀ k, (enc k).size = ps.size)
    (I M : Nat → World → Prop) (J : Nat → Act → World → Prop) (Ix : Code → Nat → World → Prop) (hR : Rounds w.heap.size I M J Ix) (hp0 : ∀ W, Below w.heap.size w W → Pre0 W) (h0 : I 0 w)
    (hMP : ∀ k W, k < N → M k W → Pre k W) (hstep : ∀ k W1 W2, k + 1 < N → M k W1 → Step k W1 W2 → KeepsOthers W1 W2 ∧ I (k + 1) W2)
    (hassign : ∀ (l k : Nat) (W : World), k < N → I k W → assign.wpIn (Fence.wide.inRound l) 0 P (Exit.then (fun a' W' => KeepsOthers W W' ∧ J k a' W') (fun _ _ _ => False)) { tmps := (ps.zip (enc k)).foldl (fun t (p, v) => t.setIfInBounds p v) a.tmps, defers := [] } W)
    (hbody : ∀ (l k : Nat) (a' : Act) (W : World), w.heap.size ≤ l → (∃ r, W.heap[l]? = some (.loop r)) → k < N → J k a' W → body.wpIn (Fence.wide.inRound l) 0 P (rEnd M Ix k W) a' W)
    (hdone : ∀ (d : Nat) (W : World), w.heap.size ≤ d → ((N = 0 ∧ I 0 W) ∨ ∃ j, j + 1 = N ∧ M j W) → W.heap[d]? = some (.deferred (some [])) → Q .normal { a with defers := { target := .collected d, args := #[] } :: a.defers } W)
    (hstop : ∀ (d : Nat) (c : Code) (k : Nat) (W : World), w.heap.size ≤ d → k < N → Ix c k W → W.heap[d]? = some (.deferred (some [])) → c.wp P Q { a with defers := { target := .collected d, args := #[] } :: a.defers } W) :
    (Code.rangeFunc g ps assign body).wp P Q a w := by
  refine wpIn_wide (n := 0).1 (wpIn_rangeFunc ?_)
  intro fn _
  obtain ⟨rec, hrec⟩ : ∃ rec : LoopState → Option Code → Loop, rec = fun st pe => { state := st, pending := pe, fn, tmps := a.tmps, params := ps, assign, body, defers := w.heap.size } := ⟨_, rfl⟩
  obtain ⟨W1, hW1⟩ : ∃ W1, (w.alloc (.deferred (some []))).alloc (.loop (rec .ready none)) = W1 := ⟨_, rfl⟩
  have hL1 : W1.heap[w.heap.size + 1]? = some (.loop (rec .ready none)) := by
    rw [← hW1]; have := World.alloc_heap_new (w.alloc (.deferred (some []))) (.loop (rec .ready none)); rwa [World.size_alloc] at this
  have hK1 : W1.heap[w.heap.size]? = some (.deferred (some [])) := by
    rw [← hW1]; exact (Below.heap_alloc _ _ _ (by simp)).trans (World.alloc_heap_new w _)
  have hI1 : I 0 W1 := by rw [← hW1]; exact hR.i.alloc _ (hR.i.alloc _ h0)
  have hb1 : Below w.heap.size w W1 := by
    rw [← hW1]; exact (((Below.refl _ w).alloc (Nat.le_refl _) _).alloc (by simp) _)
  refine ⟨w.heap.size + 1, [{ target := .collected w.heap.size, args := #[] }], W1, { target := .fn (.func gf) lb, args := #[.func (.yield (w.heap.size + 1)) #[] #[]] }, W1, gf,
    #[.func (.yield (w.heap.size + 1)) #[] #[]] ++ lb, W1, ?_, ?_, fun _ _ => trivial, ?_, fun h => (by cases h), ?_⟩
  · rw [← hW1, hrec]; exact run_enterLoop_outer _ _ _ _ _
  · simp only [resolve, hg]
    simp [go_sem]
  · simp [invoke, go_sem, eg]
  · refine (rf_core hit hrec hps hR (by omega) hMP hstep hassign hbody (G := fun W => W.heap[w.heap.size]? = some (.deferred (some []))) (fun W W' h hk => hk.same _ _ h rfl) (fun W o h => (World.putObj_heap_other (by omega)).trans h) hL1 hK1 hI1 (hp0 _ hb1)).mono ?_
    rintro e W2 ⟨⟨v, rfl⟩, ⟨hfin, hl, hk⟩ | ⟨k, c, hkN, hi, hl, hk⟩⟩
    · refine ⟨none, _, by have := run_endLoop (P := P) hl (by rw [hrec]; simp); rw [hrec] at this; exact this, hdone _ _ (Nat.le_refl _) ?_ ((World.putObj_heap_other (by omega)).trans hk)⟩
      rcases hfin with ⟨hN, hi⟩ | ⟨j, hj, hm⟩
      · exact .inl ⟨hN, hR.i.putObj _ hi (by omega) hl rfl⟩
      · exact .inr ⟨j, hj, hR.m.putObj _ hm (by omega) hl rfl⟩
    · exact ⟨some c, _, by have := run_endLoop (P := P) hl (by rw [hrec]; simp); rw [hrec] at this; exact this, wpIn_wide.2 (hstop _ c k _ (Nat.le_refl _) hkN ((hR.x c).putObj _ hi (by omega) hl rfl) ((World.putObj_heap_other (by omega)).trans hk))⟩
/-- The loop within a round of another one. -/
theorem rf_in {l0 : Nat} {r0 : Loop} {g : Operand} {ps : Array Tmp} {assign body : Code} {Q : Exit → Act → World → Prop} {a : Act} {w : World} (hl0 : w.heap[l0]? = some (.loop r0)) {gf : Nat} {lb : Array Value} (hg : a.eval g = .func (.func gf) #[] lb) (eg : ∀ args w, (callFunc gf args).run P w = .ok (.enter gf args) w)
    {N : Nat} {enc : Nat → Array Value} {Step : Nat → World → World → Prop} {Pre : Nat → World → Prop} {Pre0 : World → Prop} (hit : IterR P gf lb N enc Step Pre Pre0) (hps : ∀ k, (enc k).size = ps.size)
    (I M : Nat → World → Prop) (J : Nat → Act → World → Prop) (Ix : Code → Nat → World → Prop) (hR : Rounds w.heap.size I M J Ix) (hp0 : ∀ W, Below w.heap.size w W → Pre0 W) (h0 : I 0 w)
    (hMP : ∀ k W, k < N → M k W → Pre k W) (hstep : ∀ k W1 W2, k + 1 < N → M k W1 → Step k W1 W2 → KeepsOthers W1 W2 ∧ I (k + 1) W2)
    (hassign : ∀ (l k : Nat) (W : World), k < N → I k W → assign.wpIn (Fence.wide.inRound l) 0 P (Exit.then (fun a' W' => KeepsOthers W W' ∧ J k a' W') (fun _ _ _ => False)) { tmps := (ps.zip (enc k)).foldl (fun t (p, v) => t.setIfInBounds p v) a.tmps, defers := [] } W)
    (hbody : ∀ (l k : Nat) (a' : Act) (W : World), w.heap.size ≤ l → (∃ r, W.heap[l]? = some (.loop r)) → k < N → J k a' W → body.wpIn (Fence.wide.inRound l) 0 P (rEnd M Ix k W) a' W)
    (hdone : ∀ (W : World), ((N = 0 ∧ I 0 W) ∨ ∃ j, j + 1 = N ∧ M j W) → Q .normal a W)
    (hstop : ∀ (c : Code) (k : Nat) (W : World), k < N → Ix c k W → c.wpIn (Fence.wide.inRound l0) 0 P Q a W) :
    (Code.rangeFunc g ps assign body).wpIn (Fence.wide.inRound l0) 0 P Q a w := by
  refine wpIn_rangeFunc ?_
  intro fn _
  obtain ⟨rec, hrec⟩ : ∃ rec : LoopState → Option Code → Loop, rec = fun st pe => { state := st, pending := pe, fn, tmps := a.tmps, params := ps, assign, body, defers := r0.defers } := ⟨_, rfl⟩
  obtain ⟨W1, hW1⟩ : ∃ W1, w.alloc (.loop (rec .ready none)) = W1 := ⟨_, rfl⟩
  have hL1 : W1.heap[w.heap.size]? = some (.loop (rec .ready none)) := by rw [← hW1]; exact World.alloc_heap_new w _
  have hI1 : I 0 W1 := by rw [← hW1]; exact hR.i.alloc _ h0
  have hb1 : Below w.heap.size w W1 := by
    rw [← hW1]; exact (Below.refl _ w).alloc (Nat.le_refl _) _
  refine ⟨w.heap.size, [], W1, { target := .fn (.func gf) lb, args := #[.func (.yield w.heap.size) #[] #[]] }, W1, gf,
    #[.func (.yield w.heap.size) #[] #[]] ++ lb, W1, ?_, ?_, fun _ _ => trivial, ?_, fun h => (by cases h), ?_⟩
  · rw [← hW1, hrec]; exact run_enterLoop_inner hl0 _ _ _ _ _
  · simp only [resolve, hg]
    simp [go_sem]
  · simp [invoke, go_sem, eg]
  · refine CallsIn.mono (rf_core hit hrec hps hR (Nat.le_refl _) hMP hstep hassign hbody (G := fun _ => True) (fun _ _ _ _ => trivial) (fun _ _ _ => trivial) hL1 trivial hI1 (hp0 _ hb1)) ?_
    rintro e W2 ⟨⟨v, rfl⟩, ⟨hfin, hl, hk⟩ | ⟨k, c, hkN, hi, hl, hk⟩⟩
    · refine ⟨none, _, by have := run_endLoop (P := P) hl (by rw [hrec]; simp); rw [hrec] at this; exact this, hdone _ ?_⟩
      rcases hfin with ⟨hN, hi⟩ | ⟨j, hj, hm⟩
      · exact .inl ⟨hN, hR.i.putObj _ hi (Nat.le_refl _) hl rfl⟩
      · exact .inr ⟨j, hj, hR.m.putObj _ hm (Nat.le_refl _) hl rfl⟩
    · exact ⟨some c, _, by have := run_endLoop (P := P) hl (by rw [hrec]; simp); rw [hrec] at this; exact this, hstop c k _ hkN ((hR.x c).putObj _ hi (Nat.le_refl _) hl rfl)⟩
end
/-! What is said of cells abides. -/
theorem kept_blk {B : Nat} {W W' : World} {row : Option Nat} (hg : W.grownBy W' row) (hr : ∀ r, row = some r → B ≤ r ∧ ∃ o : Obj, W.heap[r]? = some o ∧ o.isCells = false) {b : Nat} {c : Array Value} {t : TypeId} {f : Nat × Nat} (h : W.heap[b]? = some (.cells c t f)) : W'.heap[b]? = some (.cells c t f) :=
  (grownBy_keeps_cells hg (fun r e => (hr r e).2) h rfl).trans h
theorem kept_below {B n0 : Nat} {w0 W W' : World} {row : Option Nat} (hg : W.grownBy W' row) (hr : ∀ r, row = some r → B ≤ r ∧ ∃ o : Obj, W.heap[r]? = some o ∧ o.isCells = false) (h : Below n0 w0 W) (h1 : n0 ≤ w0.heap.size) (h2 : n0 ≤ B) : Below n0 w0 W' :=
  h.grown hg (Nat.le_trans h1 h.size) (fun k e => Nat.le_trans h2 (hr k e).1)
theorem ownR_cells {W : World} {base : Nat} {e : TypeId} {sz : Nat} {v : Value} {n : Nat} {c : Nat → Nat → Value} (h : OwnR W base e sz v n c) {k : Nat} (hv : v.ownBlock = some k) : ∃ cur, W.heap[k]? = some (.cells cur e (0, 0)) := by
  rcases h.forms with ⟨rfl, _⟩ | ⟨g, cap, rfl, _, _, _, _, _, cur, hc⟩
  · cases hv
  · cases hv; exact ⟨cur, hc⟩
theorem kept_own {B : Nat} {W W' : World} {row : Option Nat} (hg : W.grownBy W' row) (hr : ∀ r, row = some r → B ≤ r ∧ ∃ o : Obj, W.heap[r]? = some o ∧ o.isCells = false) {base : Nat} {e : TypeId} {sz : Nat} {v : Value} {n : Nat} {c : Nat → Nat → Value} (h : OwnR W base e sz v n c) : OwnR W' base e sz v n c := by
  refine OwnR.kept h hg ?_
  cases hv : v.ownBlock with
  | none => exact .inl rfl
  | some k =>
    right
    intro e'
    obtain ⟨o, ho, hc⟩ := (hr k e'.symm).2
    obtain ⟨cur, hcur⟩ := ownR_cells h hv
    rw [hcur] at ho; cases ho; cases hc
theorem kept_keeps {B : Nat} {w0 W W' : World} {row : Option Nat} (hg : W.grownBy W' row) (hr : ∀ r, row = some r → B ≤ r ∧ ∃ o : Obj, W.heap[r]? = some o ∧ o.isCells = false) (h : KeepsOthers w0 W) (hB : w0.heap.size ≤ B) : KeepsOthers w0 W' :=
  ⟨Nat.le_trans h.size hg.size, fun k o hk ho => by
    refine (hg.block k (Array.getElem?_eq_some_iff.1 (h.same k o hk ho)).1 (fun e => ?_)).trans (h.same k o hk ho)
    have h1 := (hr k e.symm).1
    have h2 := (Array.getElem?_eq_some_iff.1 hk).1
    omega⟩
theorem keeps_below {W W' : World} (h : Below W.heap.size W W') : KeepsOthers W W' := ⟨h.size, fun k o hk _ => (h.block k (Array.getElem?_eq_some_iff.1 hk).1).trans hk⟩
end Go.Proofs.Ytfjbgcaogffiaaa
