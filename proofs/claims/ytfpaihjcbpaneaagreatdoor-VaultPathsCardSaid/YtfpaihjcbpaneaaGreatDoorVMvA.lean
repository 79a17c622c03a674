/-
  must; the function that move defers.
  A panic in a function with deferred calls looks at the slots of the results alone.
  A region in a function with deferred calls: a panic looks at the deferred calls and at one slot alone, and no operation writes it. So the laws for regions that draw may be used with a post whose panic is said for all slots.
-/
import Derived.Test.YtfpaihjcbpaneaaGreatDoorVHoursA
import Derived.Test.YtfpaihjcbpaneaaGreatDoorDRegX
namespace Go.Proofs.YtfpaihjcbpaneaaGreatDoor
open Go.RowKit D
set_option linter.unusedVariables false
set_option linter.unusedSimpArgs false
attribute [local go_sem high] run_minI run_maxI
/-- The panic with an error. -/
def panE (e : Int) : Ending := .panicked [{ v := .iface 32 (.int .i64 e), recovered := false }]
theorem must_ok (e : Int) (w : World) : Calls Tryz.prog 92 #[.bool true, .int .i64 e] w fun en w' => en = .returned (.tuple #[]) ∧ w = w' := by
  go_enter Tryz.func92, Tryz.ntmps92
  go_wp2_with (fail)
  go_end0
  exact ⟨rfl, rfl⟩
theorem must_no (e : Int) (w : World) : Calls Tryz.prog 92 #[.bool false, .int .i64 e] w fun en w' => en = .panicked [{ v := .iface 32 (.int .i64 (e)), recovered := false }] ∧ w = w' := by
  go_enter Tryz.func92, Tryz.ntmps92
  go_wp2_with (fail)
  exact ⟨rfl, rfl, rfl⟩
/-- must, either way. -/
def doneE (b : Bool) (e : Int) : Ending := if b then .returned (.tuple #[]) else panE e
theorem must_any (b : Bool) (e : Int) (w : World) : Calls Tryz.prog 92 #[.bool b, .int .i64 e] w fun en w' => en = doneE b e ∧ w = w' := by
  cases b
  · exact must_no e w
  · exact must_ok e w
theorem caught_panicking (b : Nat) (e c : Int) (older : List PanicEntry) (w : World) (hb : w.heap[b]? = some (.cells #[.int .i64 c] 32 (0, 0))) :
    CallsD Tryz.prog 91 #[.pointer (some ⟨b, 0, none⟩)] (.panicking ({ v := .iface 32 (.int .i64 e), recovered := false } :: older)) w fun en u' w' =>
      en = .returned (.tuple #[]) ∧ u' = .panicking ({ v := .iface 32 (.int .i64 e), recovered := true } :: older) ∧ w' = w.setCell ⟨b, 0, none⟩ (.int .i64 e) := by
  have h0 : w.cell? ⟨b, 0, none⟩ = some (.int .i64 c) := by simp [World.cell?, hb]
  have f0 : w.frozen? ⟨b, 0, none⟩ = false := by simp [World.frozen?, hb]
  refine callsD_of_wpS Tryz.func91 rfl fun c₀ cs hu => ?_
  apply wpS_seq
  apply wpS_region
  simp [wpOpsS, go_sem, recoverD, hu, Tryz.ntmps91, Exit.thenS]
  apply wpS_seq
  apply wpS_region
  simp [wpOpsS, go_sem, recoverD, hu, Tryz.ntmps91, Exit.thenS]
  refine wpS_cond (t := true) (by simp [Act.eval, Array.replicate]) ?_
  simp only [if_true]
  apply wpS_region
  have ha : ∀ w, (Instr.typeAssert (.iface 32 (.int .i64 e)) 20 32 false).run Tryz.prog w = .ok (.int .i64 e) w := fun w => by kernel_rfl
  simp [wpOpsS, go_sem, ha, h0, f0, bodyPostS, results, Tryz.results91]
theorem caught_idle (p : Addr) (w : World) :
    CallsD Tryz.prog 91 #[.pointer (some p)] .returning w fun en u' w' => en = .returned (.tuple #[]) ∧ u' = .returning ∧ w' = w := by
  refine callsD_of_wpS Tryz.func91 rfl fun c₀ cs hu => ?_
  apply wpS_seq
  apply wpS_region
  simp [wpOpsS, go_sem, recoverD, hu, Tryz.ntmps91, Exit.thenS]
  apply wpS_seq
  apply wpS_region
  simp [wpOpsS, go_sem, recoverD, hu, Tryz.ntmps91, Exit.thenS]
  refine wpS_cond (t := false) (by simp [Act.eval, Array.replicate]) ?_
  simp only [Bool.false_eq_true, if_false]
  refine wpS_of_wp (wp_skip ?_)
  cases c₀
  simp_all [bodyPostS, results, Tryz.results91]
theorem settle_done (v : Value) : settle (.panicking [{ v := v, recovered := true }]) = .returning := by simp [settle]
theorem leave_panic {fn : Func} {R : Ending → World → Prop} {w1 : World} {B : Nat} {e c : Int} {tmps : Array Value} (hB : w1.heap[B]? = some (.cells #[.int .i64 c] 32 (0, 0))) (hr : Leaves Tryz.prog fn tmps R [] .returning (w1.setCell ⟨B, 0, none⟩ (.int .i64 e))) :
    bodyPostD Tryz.prog fn R (Exit.panic [{ v := .iface 32 (.int .i64 e), recovered := false }])
      { tmps := tmps, defers := [{ target := Target.fn (Fn.func 91) #[.pointer (some ⟨B, 0, none⟩)], args := #[] }] } w1 := by
  refine leaves_cons (f := 91) (args := #[.pointer (some ⟨B, 0, none⟩)]) (by simp) (by simp [go_sem]) ?_
  refine (caught_panicking B e c [] w1 hB).mono ?_
  rintro e' u' w'' ⟨rfl, rfl, rfl⟩
  dsimp only
  rw [settle_done]
  exact hr
theorem leave_done {fn : Func} {R : Ending → World → Prop} {w1 : World} {B : Nat} {tmps : Array Value} (hr : Leaves Tryz.prog fn tmps R [] .returning w1) :
    Leaves Tryz.prog fn tmps R [{ target := Target.fn (Fn.func 91) #[.pointer (some ⟨B, 0, none⟩)], args := #[] }] .returning w1 := by
  refine leaves_cons (f := 91) (args := #[.pointer (some ⟨B, 0, none⟩)]) (by simp) (by simp [go_sem]) ?_
  refine (caught_idle _ w1).mono ?_
  rintro e' u' w'' ⟨rfl, rfl, rfl⟩
  exact hr
end Go.Proofs.YtfpaihjcbpaneaaGreatDoor
namespace Go.Proofs.YtfpaihjcbpaneaaGreatDoor
open Go.RowKit D
set_option linter.unusedVariables false
set_option linter.unusedSimpArgs false
attribute [local go_sem high] run_minI run_maxI
theorem leaves_tmps {fn : Func} {t t' : Array Value} {R : Ending → World → Prop} (h : results fn t = results fn t') : ∀ (ds : List Deferred) (u : FrameMode) (w : World), Leaves Tryz.prog fn t R ds u w → Leaves Tryz.prog fn t' R ds u w
  | [], .returning, w, ⟨v, h1, h2⟩ => ⟨v, by rw [← h]; exact h1, h2⟩
  | [], .panicking _, _, hl => hl
  | [], .run, _, hl => hl.elim
  | d :: ds, u, w, ⟨h1, fv, cap, f, args, h2, h3, h4⟩ => ⟨h1, fv, cap, f, args, h2, h3, CallsD.mono h4 fun e u' w' hq => by
    cases e with
    | returned v => exact leaves_tmps h ds _ _ hq
    | panicked c => exact leaves_tmps h ds _ _ hq
    | outgrown => exact hq⟩
/-- move: a panic looks at slot 4 alone. -/
theorem move_put {R : Ending → World → Prop} {c : List PanicEntry} {a : Act} {d : Option Tmp} {v : Value} {w : World} (hd : d ≠ some 4) (h : bodyPostD Tryz.prog Tryz.f67 R (.panic c) (a.put d v) w) : bodyPostD Tryz.prog Tryz.f67 R (.panic c) a w := by
  cases d with
  | none => exact h
  | some i =>
    refine leaves_tmps ?_ _ _ _ h
    have : i ≠ 4 := fun h => hd (by rw [h])
    have h4 : (a.tmps.setIfInBounds i v).getD 4 undef = a.tmps.getD 4 undef := by simp [Array.getD_eq_getD_getElem?, Array.getElem?_setIfInBounds, this]
    simp [results, Tryz.results67, go_sem, Act.put, h4, Array.getElem?_setIfInBounds, this]
end Go.Proofs.YtfpaihjcbpaneaaGreatDoor
namespace Go.Proofs.YtfpaihjcbpaneaaGreatDoor
open Go.RowKit
set_option linter.unusedVariables false
section
variable {P : Program} {md : Region.Mode} {ops : Array Oper} {s : Nat} {v : Value}
/-- At a panic: for all slots, but slot s. -/
def Pan (s : Nat) (v : Value) (Q : Exit → Act → World → Prop) : Exit → Act → World → Prop
  | .panic c, a0, w => ∀ a : Act, a.tmps.getD s undef = v → a.defers = a0.defers → Q (.panic c) a w
  | .normal, a, w => Q .normal a w
  | .exit i, a, w => Q (.exit i) a w
  | .goto i, a, w => Q (.goto i) a w
  | .ret, a, w => Q .ret a w
  | .outgrown, a, w => Q .outgrown a w
def keepP (s : Nat) (ops : Array Oper) : Bool := ops.all fun o => o.dst != some s
theorem keepP_put {a : Act} {d : Option Tmp} {u : Value} (hd : d ≠ some s) (h : a.tmps.getD s undef = v) : (a.put d u).tmps.getD s undef = v := by
  cases d with
  | none => exact h
  | some i =>
    have hi : i ≠ s := fun e => hd (by rw [e])
    refine Eq.trans ?_ h
    simp [Act.put, Array.getD_eq_getD_getElem?, hi]
theorem wpOp_pan {Q Q' : Exit → Act → World → Prop} {L : Act → World → Prop} (hp : ∀ c (a : Act) w, a.tmps.getD s undef = v → Q' (.panic c) a w → Q (.panic c) a w) (ho : LetsOut Q' → LetsOut Q) (hk : keepP s ops = true) {i : Nat} {a : Act} {w : World}
    (ha : a.tmps.getD s undef = v) (h : wpOp P ops Q' i L a w) : wpOp P ops Q i (fun a' w' => a'.tmps.getD s undef = v ∧ L a' w') a w := by
  unfold wpOp at *
  cases hoi : ops[i]? with
  | none => rw [hoi] at h; exact ⟨ha, h⟩
  | some o =>
    rw [hoi] at h
    simp only at h ⊢
    have hdst : o.dst ≠ some s := by
      obtain ⟨hi, rfl⟩ := Array.getElem?_eq_some_iff.1 hoi
      simpa using Array.all_eq_true.1 hk i hi
    by_cases hw : Region.wanted o (yielded ops a.tmps) = true
    · rw [if_pos hw] at h ⊢
      rcases h with h | ⟨h1, h2⟩
      case inr => exact .inr ⟨h1, ho h2⟩
      refine .inl ?_
      unfold Oper.wp at *
      generalize (execOp a.eval o).run P w = r at *
      cases r with
      | halt x w' => cases x <;> first | exact hp _ _ _ ha h | exact h
      | ok x w' =>
        cases x with
        | value u => exact ⟨keepP_put hdst ha, h⟩
        | skip => exact ⟨keepP_put hdst ha, h⟩
        | defer d => exact ⟨keepP_put hdst ha, h⟩
        | enter f args =>
          refine Calls.mono h ?_
          intro e w'' he
          cases e with
          | returned u => exact ⟨keepP_put hdst ha, he⟩
          | panicked c => exact hp _ _ _ ha he
          | outgrown => exact ho he
        | row r args =>
          refine Rows.mono h ?_
          intro u w'' he
          exact ⟨keepP_put hdst ha, he⟩
        | _ => exact h.elim
    · rw [if_neg hw] at h ⊢
      exact ⟨keepP_put hdst ha, h⟩
theorem wpAny_pan {Q Q' : Exit → Act → World → Prop} (hp : ∀ c (a : Act) w, a.tmps.getD s undef = v → Q' (.panic c) a w → Q (.panic c) a w) (ho : LetsOut Q' → LetsOut Q) (hn : ∀ a w, Q' .normal a w → Q .normal a w) (hk : keepP s ops = true) :
    ∀ (f : Nat) (listed : Array Bool) (a : Act) (w : World), a.tmps.getD s undef = v → wpAny P md ops Q' f listed a w → wpAny P md ops Q f listed a w
  | 0, _, _, _, _, h => ⟨h.1, hn _ _ h.2⟩
  | f + 1, _, _, _, ha, h => ⟨fun h0 => hn _ _ (h.1 h0), fun i hi => wpOp_mono (fun a' w' h' => wpAny_pan hp ho hn hk f _ a' w' h'.1 h'.2) (wpOp_pan hp ho hk ha (h.2 i hi))⟩
/-- The law. -/
theorem region_pan {Q : Exit → Act → World → Prop} {L : Act → World → Prop} {id : Nat} {a : Act} {w : World} (s : Nat) (v : Value) (hv : a.tmps.getD s undef = v) (hm : P.follows .mixedOrders = true) (hk : keepP s ops = true)
    (h : wpAny P .any ops (Exit.then L (Pan s v Q)) ops.size (Array.replicate ops.size false) a w.drew) : (Code.region id ops true).wp P (Exit.then L Q) a w :=
  wp_region_any hm (wpAny_pan (Q := Exit.then L Q) (Q' := Exit.then L (Pan s v Q)) (s := s) (v := v) (fun c a' w' ha hq => hq a' ha rfl) (fun ⟨a, w, h⟩ => ⟨a, w, h⟩) (fun _ _ h => h) hk _ _ _ _ hv h)
end
end Go.Proofs.YtfpaihjcbpaneaaGreatDoor
