/-
  decay.caught: the deferred call that takes the fault.
-/
import Derived.Test.YtfjbgcaogffiaaaDMustA
import Derived.Recover
import Derived.Defers
namespace Go.Proofs.Ytfjbgcaogffiaaa
open Go.RowKit D
set_option linter.unusedVariables false
set_option linter.unusedSimpArgs false
attribute [local go_sem high] run_minI run_maxI
theorem run_assert_same {P : Program} {T s : TypeId} {fs : Array Field} {v : Value} {w : World} (hu : P.underlying T = some (.struct fs)) : (Instr.typeAssert (.iface T v) s T false).run P w = .ok v w := by
  simp [Instr.typeAssert, run_underlying hu]
theorem caught_panicking (b : Nat) (a0 a1 a2 c0 c1 c2 : Int) (older : List PanicEntry) (w : World) (hb : w.heap[b]? = some (.cells #[(.int .i64 c0), (.int .i64 c1), (.int .i64 c2)] 103 (0, 0))) :
    CallsD Try.prog 68 #[.pointer (some ⟨b, 0, none⟩)] (.panicking ({ v := .iface 103 (.agg #[(.int .i64 a0), (.int .i64 a1), (.int .i64 a2)]), recovered := false } :: older)) w fun e u' w' =>
      e = .returned (.tuple #[]) ∧ u' = .panicking ({ v := .iface 103 (.agg #[(.int .i64 a0), (.int .i64 a1), (.int .i64 a2)]), recovered := true } :: older) ∧ w' = ((w.setCell ⟨b, 0, none⟩ (.int .i64 a0)).setCell ⟨b, 1, none⟩ (.int .i64 a1)).setCell ⟨b, 2, none⟩ (.int .i64 a2) := by
  have h0 : w.cell? ⟨b, 0, none⟩ = some (.int .i64 c0) := by simp [World.cell?, hb]
  have h1 : w.cell? ⟨b, 1, none⟩ = some (.int .i64 c1) := by simp [World.cell?, hb]
  have h2 : w.cell? ⟨b, 2, none⟩ = some (.int .i64 c2) := by simp [World.cell?, hb]
  have f0 : w.frozen? ⟨b, 0, none⟩ = false := by simp [World.frozen?, hb]
  have f1 : w.frozen? ⟨b, 1, none⟩ = false := by simp [World.frozen?, hb]
  have f2 : w.frozen? ⟨b, 2, none⟩ = false := by simp [World.frozen?, hb]
  refine callsD_of_wpS Try.func68 rfl fun c₀ cs hu => ?_
  apply wpS_seq
  apply wpS_region
  simp [wpOpsS, go_sem, recoverD, hu, Try.ntmps68, Exit.thenS]
  apply wpS_seq
  apply wpS_region
  simp [wpOpsS, go_sem, recoverD, hu, Try.ntmps68, Exit.thenS]
  refine wpS_cond (t := true) (by simp [Act.eval, Array.replicate]) ?_
  simp only [if_true]
  apply wpS_region
  have ha := fun w => run_assert_same (P := Try.prog) (s := 20) (v := .agg #[(.int .i64 a0), (.int .i64 a1), (.int .i64 a2)]) (w := w) Try.underlying103
  simp [wpOpsS, go_sem, ha, h0, h1, h2, f0, f1, f2, bodyPostS, results, Try.results68]
theorem caught_idle (p : Addr) (w : World) :
    CallsD Try.prog 68 #[.pointer (some p)] .returning w fun e u' w' => e = .returned (.tuple #[]) ∧ u' = .returning ∧ w' = w := by
  refine callsD_of_wpS Try.func68 rfl fun c₀ cs hu => ?_
  apply wpS_seq
  apply wpS_region
  simp [wpOpsS, go_sem, recoverD, hu, Try.ntmps68, Exit.thenS]
  apply wpS_seq
  apply wpS_region
  simp [wpOpsS, go_sem, recoverD, hu, Try.ntmps68, Exit.thenS]
  refine wpS_cond (t := false) (by simp [Act.eval, Array.replicate]) ?_
  simp only [Bool.false_eq_true, if_false]
  refine wpS_of_wp (wp_skip ?_)
  cases c₀
  simp_all [bodyPostS, results, Try.results68]
end Go.Proofs.Ytfjbgcaogffiaaa
