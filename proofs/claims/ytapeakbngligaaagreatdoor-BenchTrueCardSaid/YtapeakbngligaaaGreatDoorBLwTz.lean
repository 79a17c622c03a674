/-
  law.BenchTrue, walked: put together.
-/
import Derived.Test.YtapeakbngligaaaGreatDoorBLwTr
import Derived.Test.YtapeakbngligaaaGreatDoorBLwMd
namespace Go.Proofs.YtapeakbngligaaaGreatDoor
open Go.RowKit D
set_option linter.unusedVariables false
theorem lawTrue_any {T : Task} {t : TSl} {X : Lost} {q : LSl} {f : Int} {w : World} (hT : TaskAt w T t) (hX : LostAt w X q) (hf : 0 ≤ f ∧ f ≤ 65535) (hm : MaxAt w) : Calls Tryz.prog 3 #[.agg #[.string T.reel.name, .int .i64 T.reel.gauge, .int .i64 T.reel.base, .int .i64 T.reel.frames, .int .i64 T.reel.ylo, .int .i64 T.reel.yhi, .int .i64 T.reel.keep, .slice t.r.m.a T.reel.marks.length t.r.m.cap, .slice t.r.s.a T.reel.syms.length t.r.s.cap, .slice t.r.l.a T.reel.lens.length t.r.l.cap, .int .i64 T.whole.lo, .int .i64 T.whole.hi, .slice t.n.a T.notes.length t.n.cap], .agg #[.int .u8 X.gauge, .int .u8 X.roll, .int .u16 X.first, .slice q.p.a X.pieces.length q.p.cap, .slice q.l.a X.leaders.length q.l.cap, .slice q.x.a X.wide.length q.x.cap, .slice q.n.a X.noted.length q.n.cap, .int .u8 X.end_, .int .u8 X.least, .int .u8 X.most], .int .u16 f] w fun e w' => e = .returned (.bool true) ∧ Below w.heap.size w w' :=
  lawTrue_of hT hX hf hm fun W hW => madeL_any (hT.below hW) (hX.below hW)
end Go.Proofs.YtapeakbngligaaaGreatDoor
