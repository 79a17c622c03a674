/-
  A range over a function, by what the body may turn: a predicate of blocks and types (boxes of the caller by their addresses, slices that grow by their types).
  A range over a function, by blocks: the iterator's own boxes lie between the caller's and those that the body makes.
-/
import Derived.Test.YtapeakbngligaaaGreatDoorDMem
namespace Go.Proofs.YtapeakbngligaaaGreatDoor
open Go.RowKit
set_option linter.unusedVariables false
set_option linter.unusedSimpArgs false
/-- What the body does: below B nothing turns, and of the rest cells alone of which T says so. -/
structure Bw (B : Nat) (T : Nat → TypeId → Prop) (W W' : World) : Prop where
  bel : Below B W W'
  keep : ∀ (g : Nat) (o : Obj), W.heap[g]? = some o → (∀ (c : Array Value) (e : TypeId) (f : Nat × Nat), o = Obj.cells c e f → ¬ T g e) → W'.heap[g]? = some o
theorem Bw.refl (B : Nat) (T : Nat → TypeId → Prop) (W : World) : Bw B T W W := ⟨Below.refl _ _, fun _ _ h _ => h⟩
theorem Bw.trans {B : Nat} {T : Nat → TypeId → Prop} {W W1 W2 : World} (h : Bw B T W W1) (g : Bw B T W1 W2) : Bw B T W W2 := ⟨h.bel.trans g.bel, fun b o hb ho => g.keep b o (h.keep b o hb ho) ho⟩
theorem Bw.ext {B : Nat} {T : Nat → TypeId → Prop} {W W' : World} (h : Ext2 W W') (hB : B ≤ W.heap.size) : Bw B T W W' := ⟨h.mono hB, fun b o hb _ => h.blk hb⟩
theorem Bw.set {B : Nat} {T : Nat → TypeId → Prop} {W : World} {g o : Nat} {c : Array Value} {e : TypeId} {f : Nat × Nat} (h : W.heap[g]? = some (.cells c e f)) (he : T g e) (hB : B ≤ g) (v : Value) : Bw B T W (W.setCell ⟨g, o, none⟩ v) :=
  ⟨below_set (Below.refl _ _) hB, fun b o' hb ho => blk_set_ne hb fun hgb => by
    subst hgb
    rw [h] at hb; cases hb
    exact ho _ _ _ rfl he⟩
theorem Bw.others {B : Nat} {T : Nat → TypeId → Prop} {W W' : World} (h : Bw B T W W') : KeepsOthers W W' := ⟨h.bel.size, fun k o hk ho => h.keep k o hk fun c e f h' => by subst h'; cases ho⟩
theorem Bw.grown {B : Nat} {T : Nat → TypeId → Prop} {W W' : World} {row : Option Nat} (hg : W.grownBy W' row) (hB : B ≤ W.heap.size) (hr : ∀ k, row = some k → B ≤ k ∧ ∃ c e f, W.heap[k]? = some (.cells c e f) ∧ T k e) : Bw B T W W' := by
  refine ⟨Below.grown (Below.refl _ _) hg hB fun k hk => (hr k hk).1, fun b o hb ho => ?_⟩
  refine (hg.block b (blk_lt hb) fun he => ?_).trans hb
  obtain ⟨-, c, e, f, hc, he'⟩ := hr b he.symm
  rw [hb] at hc; cases hc
  exact ho _ _ _ rfl he'
/-- A block of which T does not speak. -/
theorem Bw.blk {B : Nat} {T : Nat → TypeId → Prop} {W W' : World} (h : Bw B T W W') {b : Nat} {c : Array Value} {e : TypeId} {f : Nat × Nat} (hb : W.heap[b]? = some (.cells c e f)) (hn : ¬ T b e) : W'.heap[b]? = some (.cells c e f) :=
  h.keep b _ hb fun c' e' f' he => by cases he; exact hn
section
variable {P : Program}
end
end Go.Proofs.YtapeakbngligaaaGreatDoor
namespace Go.Proofs.YtapeakbngligaaaGreatDoor
open Go.RowKit
set_option linter.unusedVariables false
set_option linter.unusedSimpArgs false
/-- What the iterator does between two rounds: below A nothing turns, and of the rest cells below C alone. -/
structure Sb (A C : Nat) (W W' : World) : Prop where
  bel : Below A W W'
  keep : ∀ (g : Nat) (c : Array Value) (e : TypeId) (f : Nat × Nat), C ≤ g → W.heap[g]? = some (Obj.cells c e f) → W'.heap[g]? = some (Obj.cells c e f)
theorem Sb.refl (A C : Nat) (W : World) : Sb A C W W := ⟨Below.refl _ _, fun _ _ _ _ _ h => h⟩
theorem Sb.trans {A C : Nat} {W W1 W2 : World} (h : Sb A C W W1) (g : Sb A C W1 W2) : Sb A C W W2 := ⟨h.bel.trans g.bel, fun b c e f hc hb => g.keep b c e f hc (h.keep b c e f hc hb)⟩
theorem Sb.mono {A A' C : Nat} {W W1 : World} (h : Sb A C W W1) (hA : A' ≤ A) : Sb A' C W W1 := ⟨h.bel.mono hA, h.keep⟩
theorem Sb.ext {A C : Nat} {W W' : World} (h : Ext2 W W') (hA : A ≤ W.heap.size) : Sb A C W W' := ⟨h.mono hA, fun b c e f _ hb => h.blk hb⟩
theorem Sb.set {A C : Nat} {W : World} {g o : Nat} (hA : A ≤ g) (hC : g < C) (v : Value) : Sb A C W (W.setCell ⟨g, o, none⟩ v) := ⟨below_set (Below.refl _ _) hA, fun b c e f hc hb => blk_set_ne hb (by omega)⟩
theorem Sb.put {A C : Nat} {W : World} {l : Nat} {o o' : Obj} (h : W.heap[l]? = some o) (ho : o.isCells = false) (hA : A ≤ l) : Sb A C W (W.putObj l o') := by
  have s := (Sd.put (ts := []) (o' := o') h ho hA)
  exact ⟨s.bel, fun b c e f _ hb => s.keep b c e f hb (by simp)⟩
/-- An iterator with N yields. C: where the heap ends at the first yield; of what lies below, the body keeps all but the caller's own boxes. -/
def IterB (P : Program) (gf : Nat) (lb : Array Value) (N : Nat) (enc : Nat → Array Value) (B : Nat) (Pre0 : World → Prop) : Prop :=
  ∀ (ts : Nat → Nat → TypeId → Prop) (l : Nat) (I X : Nat → Nat → World → Prop) (W : World), Pre0 W → (∀ C W1 W2, Pre0 W1 → Bw B (ts C) W1 W2 → Pre0 W2) → (∀ C g t, W.heap.size ≤ g → g < C → ¬ ts C g t) → (∀ W1, Ext2 W W1 → I W1.heap.size 0 W1) → (∀ C k W1 W2, I C k W1 → Sb W.heap.size C W1 W2 → I C k W2) → (∀ C k W1 W2, X C k W1 → Sb W.heap.size C W1 W2 → X C k W2) →
    (∀ C k W1, k < N → W.heap.size ≤ C → C ≤ W1.heap.size → I C k W1 → YieldAt Fence.wide 0 P l (enc k) W1 fun e W' => (e = .returned (.bool true) ∧ Bw B (ts C) W1 W' ∧ I C (k + 1) W') ∨ (e = .returned (.bool false) ∧ KeepsFrom W.heap.size W1 W' ∧ X C k W')) →
    CallsIn Fence.wide 0 P gf (#[.func (.yield l) #[] #[]] ++ lb) W fun e W' => (∃ v, e = .returned v) ∧ ∃ C, W.heap.size ≤ C ∧ (I C N W' ∨ ∃ k, k < N ∧ X C k W')
def bEnd (B B1 : Nat) (ts : Nat → TypeId → Prop) (I : Nat → World → Prop) (Ix : Code → Nat → World → Prop) (k : Nat) (W : World) : Exit → Act → World → Prop
  | .normal, _, W' => Bw B ts W W' ∧ I (k + 1) W'
  | .ret, _, W' => KeepsFrom B1 W W' ∧ Ix .ret k W'
  | .exit id, _, W' => KeepsFrom B1 W W' ∧ Ix (.exit id) k W'
  | .goto t, _, W' => KeepsFrom B1 W W' ∧ Ix (.goto t) k W'
  | .panic _, _, _ => False
  | .outgrown, _, _ => False
section
variable {P : Program}
theorem sb_core {B1 : Nat} {gf : Nat} {lb : Array Value} {N : Nat} {enc : Nat → Array Value} {B : Nat} {Pre0 : World → Prop} (hit : IterB P gf lb N enc B Pre0) {ts : Nat → Nat → TypeId → Prop} (hpk : ∀ C W1 W2, Pre0 W1 → Bw B (ts C) W1 W2 → Pre0 W2) (hts : ∀ C g t, B1 ≤ g → g < C → ¬ ts C g t)
    {fn : FuncId} {tmps : Array Value} {ps : Array Tmp} {assign body : Code} {df L : Nat} {rec : LoopState → Option Code → Loop} (hrec : rec = fun st pe => { state := st, pending := pe, fn, tmps, params := ps, assign, body, defers := df })
    (hps : ∀ k, (enc k).size = ps.size) {I : Nat → Nat → World → Prop} {J : Nat → Nat → Act → World → Prop} {Ix : Code → Nat → Nat → World → Prop}
    (hI : ∀ C k W W', I C k W → Sb B1 C W W' → I C k W') (hJ : ∀ C k a W W', J C k a W → Sb B1 C W W' → J C k a W') (hX : ∀ c C k W W', Ix c C k W → Sb B1 C W W' → Ix c C k W') (hBB : B ≤ B1) (hBL : B1 ≤ L)
    (hassign : ∀ (l C k : Nat) (W : World), k < N → B1 ≤ C → C ≤ W.heap.size → I C k W → assign.wpIn (Fence.wide.inRound l) 0 P (Exit.then (fun a' W' => Bw B (ts C) W W' ∧ J C k a' W') (fun _ _ _ => False)) { tmps := (ps.zip (enc k)).foldl (fun t (p, v) => t.setIfInBounds p v) tmps, defers := [] } W)
    (hbody : ∀ (l C k : Nat) (a' : Act) (W : World), B1 ≤ l → l < C → (∃ r, W.heap[l]? = some (.loop r)) → k < N → B1 ≤ C → C ≤ W.heap.size → J C k a' W → body.wpIn (Fence.wide.inRound l) 0 P (bEnd B B1 (ts C) (I C) (fun c => Ix c C) k W) a' W)
    {G : World → Prop} (hG1 : ∀ W W', G W → KeepsFrom B1 W W' → G W') (hG2 : ∀ W o, G W → G (W.putObj L o)) (hG3 : ∀ W W', G W → Below (L + 1) W W' → G W')
    {W1 : World} (hL : W1.heap[L]? = some (.loop (rec .ready none))) (hLs : L + 1 ≤ W1.heap.size) (hg : G W1) (h0 : ∀ W2, Ext2 W1 W2 → I W2.heap.size 0 W2) (hp0 : Pre0 W1) :
    CallsIn Fence.wide 0 P gf (#[.func (.yield L) #[] #[]] ++ lb) W1 fun e W' => (∃ v, e = .returned v) ∧ ∃ C, B1 ≤ C ∧ ((I C N W' ∧ W'.heap[L]? = some (.loop (rec .ready none)) ∧ G W') ∨ (∃ k c, k < N ∧ Ix c C k W' ∧ W'.heap[L]? = some (.loop (rec .done (some c))) ∧ G W')) := by
  have low : ∀ {C : Nat} {Wa Wb : World}, Sb W1.heap.size C Wa Wb → Sb B1 C Wa Wb ∧ Wb.heap[L]? = Wa.heap[L]? := fun h => ⟨h.mono (by omega), h.bel.block L (by omega)⟩
  refine (hit ts L (fun C k W => I C k W ∧ W.heap[L]? = some (.loop (rec .ready none)) ∧ G W) (fun C k W => ∃ c, Ix c C k W ∧ W.heap[L]? = some (.loop (rec .done (some c))) ∧ G W) W1 hp0 hpk (fun C g t hg => hts C g t (by omega)) (fun W2 h2 => ⟨h0 W2 h2, (h2.block L (by omega)).trans hL, hG3 _ _ hg (Below.mono h2 hLs)⟩)
    (fun C k Wa Wb h hs => ⟨hI _ _ _ _ h.1 (low hs).1, (low hs).2.trans h.2.1, hG3 _ _ h.2.2 (hs.bel.mono hLs)⟩)
    (fun C k Wa Wb h hs => by obtain ⟨c, h1, h2, h3⟩ := h; exact ⟨c, hX _ _ _ _ _ h1 (low hs).1, (low hs).2.trans h2, hG3 _ _ h3 (hs.bel.mono hLs)⟩) ?_).mono ?_
  · rintro C k W hk hAC hCW ⟨hi, hl, hgW⟩
    have hlt : L < W.heap.size := (Array.getElem?_eq_some_iff.1 hl).1
    have hy := run_yield (P := P) (args := enc k) hl (by rw [hrec]; exact hps k)
    rw [hrec] at hy
    refine ⟨fn, _, assign, body, hy, roundIn_of_wpIn trivial (wpIn_mono (hassign L C k W hk (by omega) hCW hi) ?_)⟩
    clear hy
    rintro e a' Wa hq
    cases e with
    | normal =>
      obtain ⟨hka, hj⟩ := hq
      have hlW := hl
      replace hl := hka.others.same _ _ hl rfl
      replace hgW := hG1 _ _ hgW (hka.others.from B1)
      replace hlt : L < Wa.heap.size := (Array.getElem?_eq_some_iff.1 hl).1
      refine ⟨_, run_beginRound hl (by rw [hrec]), ?_⟩
      have hl2 : (Wa.putObj L (.loop { rec .ready none with state := .busy })).heap[L]? = some (.loop { rec .ready none with state := .busy }) := World.putObj_heap_same hlt
      have hg2 := hG2 Wa (.loop { rec .ready none with state := .busy }) hgW
      refine wpIn_mono (hbody L C k a' _ hBL (by omega) ⟨_, hl2⟩ hk (by omega) (Nat.le_trans (Nat.le_trans hCW hka.others.size) (grownBy_putObj' Wa L (.loop { rec .ready none with state := .busy })).size) (hJ _ _ _ _ _ hj (Sb.put hl rfl hBL))) ?_
      have fin : ∀ (jump : Option Code) (W3 : World), KeepsFrom B1 (Wa.putObj L (.loop { rec .ready none with state := .busy })) W3 →
          (Instr.endRound L jump).run P W3 = .ok (.bool jump.isNone) (W3.putObj L (.loop (rec (if jump.isNone then .ready else .done) jump))) ∧
          W3.heap[L]? = some (.loop { rec .ready none with state := .busy }) ∧
          (W3.putObj L (.loop (rec (if jump.isNone then .ready else .done) jump))).heap[L]? = some (.loop (rec (if jump.isNone then .ready else .done) jump)) ∧
          G (W3.putObj L (.loop (rec (if jump.isNone then .ready else .done) jump))) ∧ KeepsFrom W1.heap.size W (W3.putObj L (.loop (rec (if jump.isNone then .ready else .done) jump))) := fun jump W3 hk3 => by
        have hl3 := hk3.same _ _ hBL hl2 rfl
        have := run_endRound (P := P) jump hl3
        rw [hrec] at this ⊢
        refine ⟨this, by rw [hrec] at hl3; exact hl3, World.putObj_heap_same (Array.getElem?_eq_some_iff.1 hl3).1, hG2 _ _ (hG1 _ _ hg2 hk3), ?_⟩
        have s1 := (grownBy_putObj' Wa L (.loop { rec .ready none with state := .busy })).size
        have s2 := (grownBy_putObj' W3 L (.loop (rec (if jump.isNone then .ready else .done) jump))).size
        rw [hrec] at s2
        refine ⟨Nat.le_trans hka.others.size (Nat.le_trans s1 (Nat.le_trans hk3.size s2)), fun g o hgb hgo hoc => ?_⟩
        refine (World.putObj_heap_other (by omega)).trans (hk3.same g o (by omega) ((World.putObj_heap_other (by omega)).trans (hka.others.same g o hgo hoc)) hoc)
      rintro e a3 W3 hp
      cases e with
      | normal =>
        obtain ⟨hk3, hi3⟩ := hp
        obtain ⟨hr, hl3, hl4, hk4, -⟩ := fin none W3 (hk3.others.from B1)
        refine ⟨_, _, hr, .inl ⟨rfl, ⟨?_, fun g o hgo hoc => ?_⟩, hI _ _ _ _ hi3 (Sb.put hl3 rfl hBL), hl4, hk4⟩⟩
        · have s1 := grownBy_putObj' Wa L (.loop { rec .ready none with state := .busy })
          have s2 := grownBy_putObj' W3 L (.loop (rec (if (none : Option Code).isNone then .ready else .done) none))
          exact (hka.bel.trans ((⟨s1.os, s1.tape, s1.output, s1.size, fun x hx => World.putObj_heap_other (by omega)⟩ : Below B Wa _).trans hk3.bel)).trans ⟨s2.os, s2.tape, s2.output, s2.size, fun x hx => World.putObj_heap_other (by omega)⟩
        · by_cases hgL : g = L
          · subst hgL
            rw [hlW] at hgo; cases hgo
            exact hl4
          · exact (World.putObj_heap_other hgL).trans (hk3.keep g o ((World.putObj_heap_other hgL).trans (hka.keep g o hgo hoc)) hoc)
      | ret =>
        obtain ⟨hk3, hi3⟩ := hp
        obtain ⟨hr, hl3, hl4, hk4, hk5⟩ := fin (some .ret) W3 hk3
        exact ⟨_, _, hr, .inr ⟨rfl, hk5, .ret, hX _ _ _ _ _ hi3 (Sb.put hl3 rfl hBL), hl4, hk4⟩⟩
      | exit id =>
        obtain ⟨hk3, hi3⟩ := hp
        obtain ⟨hr, hl3, hl4, hk4, hk5⟩ := fin (some (.exit id)) W3 hk3
        exact ⟨_, _, hr, .inr ⟨rfl, hk5, .exit id, hX _ _ _ _ _ hi3 (Sb.put hl3 rfl hBL), hl4, hk4⟩⟩
      | goto t =>
        obtain ⟨hk3, hi3⟩ := hp
        obtain ⟨hr, hl3, hl4, hk4, hk5⟩ := fin (some (.goto t)) W3 hk3
        exact ⟨_, _, hr, .inr ⟨rfl, hk5, .goto t, hX _ _ _ _ _ hi3 (Sb.put hl3 rfl hBL), hl4, hk4⟩⟩
      | panic ch => exact hp.elim
      | outgrown => exact hp.elim
    | _ => exact hq.elim
  · rintro e W' ⟨hv, C, hAC, h⟩
    refine ⟨hv, C, by omega, ?_⟩
    rcases h with ⟨h1, h2, h3⟩ | ⟨k, hk, c, h1, h2, h3⟩
    · exact .inl ⟨h1, h2, h3⟩
    · exact .inr ⟨k, c, hk, h1, h2, h3⟩
/-- The loop in a function's own code. -/
theorem sb_out {g : Operand} {ps : Array Tmp} {assign body : Code} {Q : Exit → Act → World → Prop} {a : Act} {w : World} {gf : Nat} {lb : Array Value} (hg : a.eval g = .func (.func gf) #[] lb) (eg : ∀ args w, (callFunc gf args).run P w = .ok (.enter gf args) w)
    {N : Nat} {enc : Nat → Array Value} {B : Nat} {Pre0 : World → Prop} (hit : IterB P gf lb N enc B Pre0) {ts : Nat → Nat → TypeId → Prop} (hpk : ∀ C W1 W2, Pre0 W1 → Bw B (ts C) W1 W2 → Pre0 W2) (hts : ∀ C g t, w.heap.size ≤ g → g < C → ¬ ts C g t) (hps : ∀ k, (enc k).size = ps.size)
    (I : Nat → Nat → World → Prop) (J : Nat → Nat → Act → World → Prop) (Ix : Code → Nat → Nat → World → Prop)
    (hI : ∀ C k W W', I C k W → Sb w.heap.size C W W' → I C k W') (hJ : ∀ C k a W W', J C k a W → Sb w.heap.size C W W' → J C k a W') (hX : ∀ c C k W W', Ix c C k W → Sb w.heap.size C W W' → Ix c C k W') (hBB : B ≤ w.heap.size)
    (hp0 : ∀ W, Ext2 w W → Pre0 W) (h0 : ∀ W, Ext2 w W → I W.heap.size 0 W)
    (hassign : ∀ (l C k : Nat) (W : World), k < N → w.heap.size ≤ C → C ≤ W.heap.size → I C k W → assign.wpIn (Fence.wide.inRound l) 0 P (Exit.then (fun a' W' => Bw B (ts C) W W' ∧ J C k a' W') (fun _ _ _ => False)) { tmps := (ps.zip (enc k)).foldl (fun t (p, v) => t.setIfInBounds p v) a.tmps, defers := [] } W)
    (hbody : ∀ (l C k : Nat) (a' : Act) (W : World), w.heap.size ≤ l → l < C → (∃ r, W.heap[l]? = some (.loop r)) → k < N → w.heap.size ≤ C → C ≤ W.heap.size → J C k a' W → body.wpIn (Fence.wide.inRound l) 0 P (bEnd B w.heap.size (ts C) (I C) (fun c => Ix c C) k W) a' W)
    (hdone : ∀ (d C : Nat) (W : World), w.heap.size ≤ d → w.heap.size ≤ C → I C N W → W.heap[d]? = some (.deferred (some [])) → Q .normal { a with defers := { target := .collected d, args := #[] } :: a.defers } W)
    (hstop : ∀ (d C : Nat) (c : Code) (k : Nat) (W : World), w.heap.size ≤ d → w.heap.size ≤ C → k < N → Ix c C k W → W.heap[d]? = some (.deferred (some [])) → c.wp P Q { a with defers := { target := .collected d, args := #[] } :: a.defers } W) :
    (Code.rangeFunc g ps assign body).wp P Q a w := by
  refine wpIn_wide (n := 0).1 (wpIn_rangeFunc ?_)
  intro fn _
  obtain ⟨rec, hrec⟩ : ∃ rec : LoopState → Option Code → Loop, rec = fun st pe => { state := st, pending := pe, fn, tmps := a.tmps, params := ps, assign, body, defers := w.heap.size } := ⟨_, rfl⟩
  obtain ⟨W1, hW1⟩ : ∃ W1, (w.alloc (.deferred (some []))).alloc (.loop (rec .ready none)) = W1 := ⟨_, rfl⟩
  have hL1 : W1.heap[w.heap.size + 1]? = some (.loop (rec .ready none)) := by
    rw [← hW1]; have := World.alloc_heap_new (w.alloc (.deferred (some []))) (.loop (rec .ready none)); rwa [World.size_alloc] at this
  have hK1 : W1.heap[w.heap.size]? = some (.deferred (some [])) := by
    rw [← hW1]; exact (Below.heap_alloc _ _ _ (by simp)).trans (World.alloc_heap_new w _)
  have hb1 : Below w.heap.size w W1 := by
    rw [← hW1]; exact (((Below.refl _ w).alloc (Nat.le_refl _) _).alloc (by simp) _)
  have hs1 : W1.heap.size = w.heap.size + 1 + 1 := by rw [← hW1]; simp
  refine ⟨w.heap.size + 1, [{ target := .collected w.heap.size, args := #[] }], W1, { target := .fn (.func gf) lb, args := #[.func (.yield (w.heap.size + 1)) #[] #[]] }, W1, gf,
    #[.func (.yield (w.heap.size + 1)) #[] #[]] ++ lb, W1, ?_, ?_, fun _ _ => trivial, ?_, fun h => (by cases h), ?_⟩
  · rw [← hW1, hrec]; exact run_enterLoop_outer _ _ _ _ _
  · simp only [resolve, hg]
    simp [go_sem]
  · simp [invoke, go_sem, eg]
  · refine (sb_core hit hpk hts hrec hps hI hJ hX hBB (Nat.le_succ _) hassign hbody (G := fun W => W.heap[w.heap.size]? = some (.deferred (some []))) (fun W W' h hk => hk.same _ _ (Nat.le_refl _) h rfl) (fun W o h => (World.putObj_heap_other (by omega)).trans h) (fun W W' h hb => (hb.block _ (by omega)).trans h) hL1 (by omega) hK1 (fun W2 h2 => h0 W2 (Below.trans hb1 (Below.mono h2 hb1.size))) (hp0 _ hb1)).mono ?_
    rintro e W2 ⟨⟨v, rfl⟩, C, hC, ⟨hfin, hl, hk⟩ | ⟨k, c, hkN, hi, hl, hk⟩⟩
    · exact ⟨none, _, by have := run_endLoop (P := P) hl (by rw [hrec]; simp); rw [hrec] at this; exact this, hdone _ _ _ (Nat.le_refl _) hC (hI _ _ _ _ hfin (Sb.put hl rfl (Nat.le_succ _))) ((World.putObj_heap_other (by omega)).trans hk)⟩
    · exact ⟨some c, _, by have := run_endLoop (P := P) hl (by rw [hrec]; simp); rw [hrec] at this; exact this, wpIn_wide.2 (hstop _ _ c k _ (Nat.le_refl _) hC hkN (hX _ _ _ _ _ hi (Sb.put hl rfl (Nat.le_succ _))) ((World.putObj_heap_other (by omega)).trans hk))⟩
end
end Go.Proofs.YtapeakbngligaaaGreatDoor
