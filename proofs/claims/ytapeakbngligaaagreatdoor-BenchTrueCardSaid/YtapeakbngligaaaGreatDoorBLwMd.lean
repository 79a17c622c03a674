/-
  law.turn and law.made, walked.
-/
import Derived.Test.YtapeakbngligaaaGreatDoorBTrA
import Derived.Test.YtapeakbngligaaaGreatDoorBRA
import Derived.Test.YtapeakbngligaaaGreatDoorBGrp
import Derived.Test.YtapeakbngligaaaGreatDoorBReg
import Derived.Deep.Cut
import Derived.Deep.CutRange
import Derived.Deep.DeepCutAuto
namespace Go.Proofs.YtapeakbngligaaaGreatDoor
open Go.RowKit D
set_option linter.unusedVariables false
set_option linter.unusedSimpArgs false
attribute [local go_sem high] run_minI run_maxI
attribute [local go_sem] upon2 cls_cell cls_frozen forall_const exists_eq_left'
attribute [local go_sem] FirstUpon atBlk_cell
theorem keptA {w w' : World} {base2 : Nat} {e2 : TypeId} {sz2 : Nat} {v u : Value} {n2 : Nat} {c2 : Nat → Nat → Value} (ha : Apart v u) (hg : w.grownBy w' v.ownBlock) (h2 : OwnR w base2 e2 sz2 u n2 c2) : OwnR w' base2 e2 sz2 u n2 c2 := by
  refine h2.kept hg ?_
  cases hu : u.ownBlock with
  | none => exact .inl rfl
  | some b => exact .inr fun he => ha b he.symm hu
theorem apartN {v v' u : Value} {w : World} {base : Nat} {e : TypeId} {sz : Nat} {n : Nat} {c : Nat → Nat → Value} (h : Apart v u) (hu : OwnR w base e sz u n c) (hp : v'.ownBlock = v.ownBlock ∨ v'.ownBlock = some w.heap.size) : Apart v' u := fun b h1 h2 => by
  rcases hp with hp | hp
  · exact h b (by rw [← hp]; exact h1) h2
  · have := own_blk_lt hu h2
    rw [hp] at h1
    have : w.heap.size = b := by simpa using h1
    omega
theorem grown_set (W : World) (g o : Nat) (u : Value) : W.grownBy (W.setCell ⟨g, o, none⟩ u) (some g) :=
  ⟨rfl, rfl, rfl, Nat.le_of_eq (World.size_setCell _ _ _).symm, fun k hk hne => by
    have : g ≠ k := fun h => hne (by rw [h])
    simp [World.setCell, Array.getElem?_modify, this]⟩
theorem mkC_snoc {L : List D.Mark} {x : D.Mark} {p q : Nat} (hp : p < L.length + 1) (hq : q < 3) : upd (mkC L) L.length [.int .i64 x.frame, .int .i64 x.roll, .int .i64 x.number] p q = mkC (L ++ [x]) p q := by
  have hj : mkD (L ++ [x]) p = if p = L.length then x else mkD L p := getD_app1 hp
  by_cases h : p = L.length
  · subst h
    rw [upd_at]
    rw [if_pos rfl] at hj
    rcases (by omega : q = 0 ∨ q = 1 ∨ q = 2) with rfl | rfl | rfl <;> simp only [mkC, hj] <;> rfl
  · rw [upd_lt (by omega)]
    rw [if_neg h] at hj
    rcases (by omega : q = 0 ∨ q = 1 ∨ q = 2) with rfl | rfl | rfl <;> simp only [mkC, hj]
theorem elMark : Elem Tryz.prog 24 68 (.agg #[.int .i64 0, .int .i64 0, .int .i64 0]) 3 24 := ⟨by kernel_rfl, by kernel_rfl, rfl, by omega, by omega⟩
/-- A task as it is made: its box n8, the frames, the marks and the notes (mh, nh: what lies in the box). -/
structure MdI (n8 : Nat) (T : Task) (t : TSl) (g : Int) (s : Md) (av hv mh nh mv nv : Value) (w W : World) : Prop where
  bel : Ext2 w W
  lb : w.heap.size = n8
  sz : n8 + 1 ≤ W.heap.size
  out : W.heap[n8]? = some (Obj.cells #[.string T.reel.name, .int .i64 g, .int .i64 T.reel.base, .int .i64 T.reel.frames, .int .i64 T.reel.ylo, .int .i64 T.reel.yhi, .int .i64 T.reel.keep, mh, .slice t.r.s.a T.reel.syms.length t.r.s.cap, .slice none 0 0, .int .i64 T.whole.lo, .int .i64 T.whole.hi, nh] 31)
  all : OwnR W (n8 + 1) 3 1 av s.all.length (intC s.all)
  ahead : OwnR W (n8 + 1) 3 1 hv s.ahead.length (intC s.ahead)
  marks : OwnR W (n8 + 1) 68 3 mv s.marks.length (mkC s.marks)
  notes : OwnR W (n8 + 1) 58 8 nv s.notes.length (ntC s.notes)
  apart : Apart av hv
section
variable {n8 : Nat} {T : Task} {t : TSl} {g : Int} {s : Md} {av hv mh nh mv nv : Value} {w W W' : World}
theorem MdI.ext (h : MdI n8 T t g s av hv mh nh mv nv w W) (hE : Ext2 W W') : MdI n8 T t g s av hv mh nh mv nv w W' :=
  ⟨ext_trans h.bel hE, h.lb, Nat.le_trans h.sz hE.size, hE.blk h.out, h.all.below hE, h.ahead.below hE, h.marks.below hE, h.notes.below hE, h.apart⟩
theorem md_ext (hb : Ext2 w W) (lb : w.heap.size = n8) {row : Option Nat} (hg : W.grownBy W' row) (hr : ∀ k, row = some k → n8 + 1 ≤ k) : Ext2 w W' :=
  ext_grown hb hg (fun k hk => by have := hr k hk; omega)
theorem MdI.appAll (h : MdI n8 T t g s av hv mh nh mv nv w W) (hg : W.grownBy W' av.ownBlock) {v' : Value} {x : Int} {n : Nat} (hn : n = s.all.length) (hp : v'.ownBlock = av.ownBlock ∨ v'.ownBlock = some W.heap.size) (hO : OwnR W' (n8 + 1) 3 1 v' (n + 1) (upd (intC s.all) n [.int .i64 x])) : MdI n8 T t g { s with all := s.all ++ [x] } v' hv mh nh mv nv w W' := by
  subst hn
  exact ⟨md_ext h.bel h.lb hg (own_ge h.all), h.lb, Nat.le_trans h.sz hg.size, own_keep h.all hg h.out (by decide), by
    show OwnR W' _ _ _ _ (s.all ++ [x]).length _
    rw [List.length_append, List.length_singleton]
    exact OwnR.congr hO fun i j hi hj => intC_snoc hi hj, keptA h.apart hg h.ahead, own_other h.all hg h.marks (by decide), own_other h.all hg h.notes (by decide), apartN h.apart h.ahead hp⟩
theorem MdI.appAhead (h : MdI n8 T t g s av hv mh nh mv nv w W) (hg : W.grownBy W' hv.ownBlock) {v' : Value} {x : Int} {n : Nat} (hn : n = s.ahead.length) (hp : v'.ownBlock = hv.ownBlock ∨ v'.ownBlock = some W.heap.size) (hO : OwnR W' (n8 + 1) 3 1 v' (n + 1) (upd (intC s.ahead) n [.int .i64 x])) : MdI n8 T t g { s with ahead := s.ahead ++ [x] } av v' mh nh mv nv w W' := by
  subst hn
  exact ⟨md_ext h.bel h.lb hg (own_ge h.ahead), h.lb, Nat.le_trans h.sz hg.size, own_keep h.ahead hg h.out (by decide), keptA h.apart.symm hg h.all, by
    show OwnR W' _ _ _ _ (s.ahead ++ [x]).length _
    rw [List.length_append, List.length_singleton]
    exact OwnR.congr hO fun i j hi hj => intC_snoc hi hj, own_other h.ahead hg h.marks (by decide), own_other h.ahead hg h.notes (by decide), (apartN h.apart.symm h.all hp).symm⟩
theorem MdI.appNotes (h : MdI n8 T t g s av hv mh nh mv nv w W) (hg : W.grownBy W' nv.ownBlock) {v' : Value} {x : Note} {n : Nat} (hn : n = s.notes.length) (hO : OwnR W' (n8 + 1) 58 8 v' (n + 1) (upd (ntC s.notes) n [.string x.by_, .int .i64 x.number, .int .i64 x.rev, .int .i64 x.kind, .int .i64 x.from_, .int .i64 x.until_, .int .i64 x.mlo, .int .i64 x.mhi])) : MdI n8 T t g { s with notes := s.notes ++ [x] } av hv mh nh mv v' w W' := by
  subst hn
  exact ⟨md_ext h.bel h.lb hg (own_ge h.notes), h.lb, Nat.le_trans h.sz hg.size, own_keep h.notes hg h.out (by decide), own_other h.notes hg h.all (by decide), own_other h.notes hg h.ahead (by decide), own_other h.notes hg h.marks (by decide), own_nt hO, h.apart⟩
theorem MdI.appMarks (h : MdI n8 T t g s av hv mh nh mv nv w W) (hg : W.grownBy W' mv.ownBlock) {v' : Value} {x : D.Mark} {n : Nat} (hn : n = s.marks.length) (hO : OwnR W' (n8 + 1) 68 3 v' (n + 1) (upd (mkC s.marks) n [.int .i64 x.frame, .int .i64 x.roll, .int .i64 x.number])) : MdI n8 T t g { s with marks := s.marks ++ [x] } av hv mh nh v' nv w W' := by
  subst hn
  exact ⟨md_ext h.bel h.lb hg (own_ge h.marks), h.lb, Nat.le_trans h.sz hg.size, own_keep h.marks hg h.out (by decide), own_other h.marks hg h.all (by decide), own_other h.marks hg h.ahead (by decide), by
    show OwnR W' _ _ _ _ (s.marks ++ [x]).length _
    rw [List.length_append, List.length_singleton]
    exact OwnR.congr hO fun i j hi hj => mkC_snoc hi hj, own_other h.marks hg h.notes (by decide), h.apart⟩
theorem MdI.setO (h : MdI n8 T t g s av hv mh nh mv nv w W) {mh' nh' v : Value} {o : Nat} (ho : (#[.string T.reel.name, .int .i64 g, .int .i64 T.reel.base, .int .i64 T.reel.frames, .int .i64 T.reel.ylo, .int .i64 T.reel.yhi, .int .i64 T.reel.keep, mh, .slice t.r.s.a T.reel.syms.length t.r.s.cap, .slice none 0 0, .int .i64 T.whole.lo, .int .i64 T.whole.hi, nh] : Array Value).setIfInBounds o v = #[.string T.reel.name, .int .i64 g, .int .i64 T.reel.base, .int .i64 T.reel.frames, .int .i64 T.reel.ylo, .int .i64 T.reel.yhi, .int .i64 T.reel.keep, mh', .slice t.r.s.a T.reel.syms.length t.r.s.cap, .slice none 0 0, .int .i64 T.whole.lo, .int .i64 T.whole.hi, nh']) : MdI n8 T t g s av hv mh' nh' mv nv w (W.setCell ⟨n8, o, none⟩ v) := by
  have ha : Above (n8 + 1) W (W.setCell ⟨n8, o, none⟩ v) := Above.set (Above.refl _ _) (.inl (by omega))
  have hx := blk_set h.out o v
  rw [ho] at hx
  exact ⟨below_set h.bel (by rw [h.lb]; exact Nat.le_refl _), h.lb, by rw [World.size_setCell]; exact h.sz, hx, h.all.above ha, h.ahead.above ha, h.marks.above ha, h.notes.above ha, h.apart⟩
theorem MdI.setN (h : MdI n8 T t g s av hv mh nh mv nv w W) (v : Value) : MdI n8 T t g s av hv mh v mv nv w (W.setCell ⟨n8, 12, none⟩ v) := h.setO rfl
theorem MdI.setM (h : MdI n8 T t g s av hv mh nh mv nv w W) (v : Value) : MdI n8 T t g s av hv v nh mv nv w (W.setCell ⟨n8, 7, none⟩ v) := h.setO rfl
/-- The last number is another one. -/
theorem MdI.setL {gb cap n : Nat} {A : List Int} {x y : Int} (h : MdI n8 T t g s av (.slice (some ⟨gb, 0, none⟩) (n + 1) cap) mh nh mv nv w W) (hA : s.ahead = A ++ [x]) (hn : n = A.length) : MdI n8 T t g { s with ahead := A ++ [y] } av (.slice (some ⟨gb, 0, none⟩) (n + 1) cap) mh nh mv nv w (W.setCell ⟨gb, n, none⟩ (.int .i64 y)) := by
  have hg := grown_set W gb n (.int .i64 y)
  have hl : s.ahead.length = n + 1 := by rw [hA, List.length_append, List.length_singleton, hn]
  have h2 : OwnR W (n8 + 1) 3 1 (.slice (some ⟨gb, 0, none⟩) (n + 1) cap) (n + 1) (intC s.ahead) := by have h3 := h.ahead; rw [hl] at h3; exact h3
  refine ⟨md_ext h.bel h.lb hg (own_ge h.ahead), h.lb, Nat.le_trans h.sz hg.size, own_keep h.ahead hg h.out (by decide), keptA h.apart.symm hg h.all, ?_, own_other h.ahead hg h.marks (by decide), own_other h.ahead hg h.notes (by decide), h.apart⟩
  show OwnR _ _ _ _ _ (A ++ [y]).length _
  rw [List.length_append, List.length_singleton, ← hn]
  refine OwnR.set1 h2 (by omega) _ fun i hi => ?_
  rw [hA]
  by_cases he : i = n
  · subst he
    rw [if_pos rfl, hn]; simp [intC, intD]
  · rw [if_neg he]
    have e1 : intD (A ++ [y]) i = intD A i := intD_app1 (by omega)
    have e2 : intD (A ++ [x]) i = intD A i := intD_app1 (by omega)
    unfold intC; rw [e1, e2]
end
set_option maxRecDepth 100000 in
set_option maxHeartbeats 2000000 in
theorem turnL_any {l : List Int} {s : Sl} {i : Nat} {w : World} (hL : KindS .u8 w s l) (hi : i ≤ 1000000) : Calls Tryz.prog 14 #[.slice s.a l.length s.cap, .int .i64 (i : Int)] w fun e w' => e = .returned (.int .i64 (turnV l i)) ∧ Below w.heap.size w w' := by
  have hle := hL.1.le; have hmx := hL.1.max
  obtain ⟨a, c⟩ := s
  dsimp only at hle hmx
  by_cases h0 : l.length = 0
  · have hv : turnV l i = 0 := by unfold turnV; rw [if_pos h0]
    rw [hv, h0]
    have b0 : ((0 : Int) == 0) = true := rfl
    clear hL h0 hle hmx hv
    go_enter Tryz.func14, Tryz.ntmps14
    go_wp2_with (fail)
    go_ret
    exact ⟨rfl, Below.refl _ _⟩
  · have hm : i % l.length < l.length := Nat.mod_lt _ (by omega)
    obtain ⟨b, off, ha, c0⟩ := hL.1.cell (i % l.length) 0 hm (by omega)
    dsimp only at ha
    subst ha
    have hv := u8_in (hL.2 (i % l.length) hm)
    have ht : turnV l i = intD l (i % l.length) := by unfold turnV; rw [if_neg h0]
    rw [ht]
    obtain ⟨k, hk⟩ : ∃ k, k = i % l.length := ⟨_, rfl⟩
    rw [← hk] at c0 hv hm ⊢
    replace c0 : w.cell? ⟨b, off + k, none⟩ = some (.int .u8 (intD l k)) := by
      have e : off + k * 1 + 0 = off + k := by omega
      rw [e] at c0; exact c0
    obtain ⟨V, hV⟩ : ∃ V, V = intD l k := ⟨_, rfl⟩
    rw [← hV] at c0 hv ⊢
    have b0 : ((l.length : Int) == 0) = false := beq_eq_false_iff_ne.2 (by omega)
    have hz' : ¬ l = [] := fun h => h0 (by rw [h]; rfl)
    have hrem : (i : Int).tmod (l.length : Int) = (k : Int) := by
      rw [Int.tmod_eq_emod_of_nonneg (by omega), hk, Int.natCast_emod]
    have wk : IntKind.i64.wrap (k : Int) = (k : Int) := IntWalk.i64_in _ (by omega)
    have wV : IntKind.i64.wrap V = V := IntWalk.i64_in _ (by omega)
    have f0 : (0 : Int) ≤ (k : Int) := by omega
    have f1 : (k : Int) < (l.length : Int) := by omega
    clear hL hk hV h0 ht
    go_enter Tryz.func14, Tryz.ntmps14
    go_wp2_with (fail)
    go_ret
    exact ⟨rfl, Below.refl _ _⟩
theorem ledK_succ (s : Md) (k : Nat) : ledK s (k + 1) = { { ledK s k with all := (ledK s k).all ++ [-1] } with ahead := (ledK s k).ahead ++ [0] } := by
  show _ = Md.mk _ _ _ _ _ _
  rw [← ledK_all, ← ledK_ahead]; rfl
theorem frmK_len {X : Ls} {q : Int} {s : Md} : ∀ k, (frmK X q s k).all.length = s.all.length + k
  | 0 => rfl
  | k + 1 => by show ((frmK X q s k).all ++ [_]).length = _; rw [List.length_append, frmK_len k, List.length_singleton]; omega
theorem led_pos {X : Ls} (hX : LsIn X) {i : Nat} (h : 0 < i) : 0 < (ledS X i (mdK X i)).all.length := by
  have h1 : 0 < (mdK X i).all.length := by
    obtain ⟨i, rfl⟩ : ∃ j, i = j + 1 := ⟨i - 1, by omega⟩
    show 0 < (frmK X _ _ (1 + (pcL X i).1).toNat).all.length
    rw [frmK_len]
    have := (hX.pieces i).1
    omega
  unfold ledS
  split
  · show 0 < ((mdK X i).all ++ _).length
    rw [List.length_append]; omega
  · exact h1
theorem splK_all (X : Ls) (lost : Int) (s : Md) : ∀ k, (splK X lost s k).all = s.all ∧ (splK X lost s k).ahead = s.ahead ∧ (splK X lost s k).marks = s.marks ∧ (splK X lost s k).at_ = s.at_
  | 0 => ⟨rfl, rfl, rfl, rfl⟩
  | k + 1 => splK_all X lost s k
theorem MdI.number {n8 : Nat} {T : Task} {t : TSl} {g : Int} {s : Md} {av hv mh nh mv nv : Value} {w W : World} (h : MdI n8 T t g s av hv mh nh mv nv w W) (n : Nat) : MdI n8 T t g { s with number := n } av hv mh nh mv nv w W := ⟨h.bel, h.lb, h.sz, h.out, h.all, h.ahead, h.marks, h.notes, h.apart⟩
theorem MdI.at_ {n8 : Nat} {T : Task} {t : TSl} {g : Int} {s : Md} {av hv mh nh mv nv : Value} {w W : World} (h : MdI n8 T t g s av hv mh nh mv nv w W) (n : Int) : MdI n8 T t g { s with at_ := n } av hv mh nh mv nv w W := ⟨h.bel, h.lb, h.sz, h.out, h.all, h.ahead, h.marks, h.notes, h.apart⟩
theorem ledS_same (X : Ls) (i : Nat) (s : Md) : (ledS X i s).number = s.number ∧ (ledS X i s).at_ = s.at_ := by unfold ledS; split <;> exact ⟨rfl, rfl⟩
theorem notS_same (X : Ls) (i : Nat) (l : Int) (s : Md) : (notS X i l s).all = s.all ∧ (notS X i l s).ahead = s.ahead ∧ (notS X i l s).marks = s.marks ∧ (notS X i l s).at_ = s.at_ := by unfold notS; split <;> (try split) <;> exact ⟨rfl, rfl, rfl, rfl⟩
theorem frmK_num {X : Ls} {q : Int} {s : Md} : ∀ k, (frmK X q s k).number = s.number
  | 0 => rfl
  | k + 1 => frmK_num k
theorem results_row2 {P : Program} {fn : Func} {p u v : Tmp} {ty : TypeId} (h : fn.results = #[.cell p ty, .tmp u, .tmp v]) (tmps : Array Value) (w : World) (g : Nat) (t : TypeId) (cs : Array Value) (fr : Nat × Nat) (d : TypeDesc) (x y : Value)
    (hp : tmps.getD p undef = .pointer (some ⟨g, 0, none⟩)) (hx : tmps.getD u undef = x) (hy : tmps.getD v undef = y) (hg : w.heap[g]? = some (.cells cs t fr))
    (hu : P.underlying ty = some d) (hd : (match d with | .struct _ | .array _ _ => true | _ => false) = true) (hi : (P.info? ty).map (·.size) = some cs.size) :
    (results fn tmps).run P w = .ok (.tuple #[.agg cs, x, y]) w := by
  have hp' : tmps[p]?.getD undef = .pointer (some ⟨g, 0, none⟩) := by simpa using hp
  have hx' : tmps[u]?.getD undef = x := by simpa using hx
  have hy' : tmps[v]?.getD undef = y := by simpa using hy
  simp [results, h, hp', hx', hy', asAddr, run_loadVar_row w g t ty cs fr d hg hu hd hi]
theorem grown_setRow (W : World) (g : Nat) (cs : Array Value) : W.grownBy (W.setRow g cs) (some g) :=
  ⟨rfl, rfl, rfl, by simp [World.setRow], fun k hk hne => setRow_other W g k cs (fun h => hne (by rw [h]))⟩
theorem made_notes {X : Lost} (h : LostOk X) : ∀ x ∈ (mdV X).notes, x.by_.size ≤ maxLen := fun x hx => by
  have hi := mdK_inv (ls_in h) (min X.pieces.length 8)
  rcases hi.kinds x hx with hk | hk
  · rw [(hi.splice x hx hk).1]; exact Nat.le_trans (by decide : ada.size ≤ 1000000) (by unfold maxLen; omega)
  · rw [hk.2.1]; exact Nat.le_trans (by decide : eve.size ≤ 1000000) (by unfold maxLen; omega)
theorem taskM_info (c : Array Value) (h : c.size = 13) : (Tryz.prog.info? 31).map (·.size) = some c.size := by rw [h]; kernel_rfl
/-- What law.made returns. -/
def MdeOut (w : World) (T : Task) (X : Lost) (e : Ending) (w' : World) : Prop := Below w.heap.size w w' ∧ ∃ (t' : TSl) (sa sh : Sl), e = .returned (.tuple #[.agg #[.string (madeT T X).reel.name, .int .i64 (madeT T X).reel.gauge, .int .i64 (madeT T X).reel.base, .int .i64 (madeT T X).reel.frames, .int .i64 (madeT T X).reel.ylo, .int .i64 (madeT T X).reel.yhi, .int .i64 (madeT T X).reel.keep, .slice t'.r.m.a (madeT T X).reel.marks.length t'.r.m.cap, .slice t'.r.s.a (madeT T X).reel.syms.length t'.r.s.cap, .slice t'.r.l.a (madeT T X).reel.lens.length t'.r.l.cap, .int .i64 (madeT T X).whole.lo, .int .i64 (madeT T X).whole.hi, .slice t'.n.a (madeT T X).notes.length t'.n.cap], .slice sa.a (mdV X).all.length sa.cap, .slice sh.a (mdV X).ahead.length sh.cap]) ∧ TaskAt w' (madeT T X) t' ∧ IntsS w' sa (mdV X).all ∧ IntsS w' sh (mdV X).ahead
set_option maxRecDepth 100000 in
set_option maxHeartbeats 8000000 in
theorem madeL_any {T : Task} {t : TSl} {X : Lost} {q : LSl} {w : World} (hT : TaskAt w T t) (hX : LostAt w X q) : Calls Tryz.prog 5 #[.agg #[.string T.reel.name, .int .i64 T.reel.gauge, .int .i64 T.reel.base, .int .i64 T.reel.frames, .int .i64 T.reel.ylo, .int .i64 T.reel.yhi, .int .i64 T.reel.keep, .slice t.r.m.a T.reel.marks.length t.r.m.cap, .slice t.r.s.a T.reel.syms.length t.r.s.cap, .slice t.r.l.a T.reel.lens.length t.r.l.cap, .int .i64 T.whole.lo, .int .i64 T.whole.hi, .slice t.n.a T.notes.length t.n.cap], .agg #[.int .u8 X.gauge, .int .u8 X.roll, .int .u16 X.first, .slice q.p.a X.pieces.length q.p.cap, .slice q.l.a X.leaders.length q.l.cap, .slice q.x.a X.wide.length q.x.cap, .slice q.n.a X.noted.length q.n.cap, .int .u8 X.end_, .int .u8 X.least, .int .u8 X.most]] w (MdeOut w T X) := by
  have HT := Lib.hid hT; have HX := Lib.hid hX
  obtain ⟨⟨pa, pc⟩, ⟨la, lc⟩, ⟨xa, xc⟩, ⟨na, nc⟩⟩ := q
  have HTL := Lib.hid fun (W : World) (hW : Ext2 w W) (i : Nat) (hi : i ≤ 1000000) => turnL_any (i := i) ((hX.leaders).below hW) hi
  have HTW := Lib.hid fun (W : World) (hW : Ext2 w W) (i : Nat) (hi : i ≤ 1000000) => turnL_any (i := i) ((hX.wide).below hW) hi
  have HTN := Lib.hid fun (W : World) (hW : Ext2 w W) (i : Nat) (hi : i ≤ 1000000) => turnL_any (i := i) ((hX.noted).below hW) hi
  have HOK := Lib.hid hX.ok
  have HFT := Lib.hid fun (W : World) => footR_any (gaugeV X.gauge) W
  have HPR := Lib.hid hX.pieces
  have hple := hX.pieces.le; have hpmx := hX.pieces.max
  dsimp only at HTL HTW HTN HPR hple hpmx
  clear hT hX
  go_enter Tryz.func5, Tryz.ntmps5
  go_upto_region 1 with (fail)
  refine wp_name ?_
  intro w3 hw3
  obtain ⟨n2, hn2⟩ : ∃ n, n = w.heap.size := ⟨_, rfl⟩
  obtain ⟨n3, hn3⟩ : ∃ n, n = n2 + 1 := ⟨_, rfl⟩
  obtain ⟨n4, hn4⟩ : ∃ n, n = n3 + 1 := ⟨_, rfl⟩
  have x2 : w3.heap[n2]? = some (Obj.cells #[.string T.reel.name, .int .i64 T.reel.gauge, .int .i64 T.reel.base, .int .i64 T.reel.frames, .int .i64 T.reel.ylo, .int .i64 T.reel.yhi, .int .i64 T.reel.keep, .slice t.r.m.a T.reel.marks.length t.r.m.cap, .slice t.r.s.a T.reel.syms.length t.r.s.cap, .slice t.r.l.a T.reel.lens.length t.r.l.cap, .int .i64 T.whole.lo, .int .i64 T.whole.hi, .slice t.n.a T.notes.length t.n.cap] 31) := by rw [hw3, hn2]; exact blk_alloc (blk_alloc (blk_new _ _) _) _
  have x3 : w3.heap[n3]? = some (Obj.cells #[.int .u8 X.gauge, .int .u8 X.roll, .int .u16 X.first, .slice (⟨⟨pa, pc⟩, ⟨la, lc⟩, ⟨xa, xc⟩, ⟨na, nc⟩⟩ : LSl).p.a X.pieces.length (⟨⟨pa, pc⟩, ⟨la, lc⟩, ⟨xa, xc⟩, ⟨na, nc⟩⟩ : LSl).p.cap, .slice (⟨⟨pa, pc⟩, ⟨la, lc⟩, ⟨xa, xc⟩, ⟨na, nc⟩⟩ : LSl).l.a X.leaders.length (⟨⟨pa, pc⟩, ⟨la, lc⟩, ⟨xa, xc⟩, ⟨na, nc⟩⟩ : LSl).l.cap, .slice (⟨⟨pa, pc⟩, ⟨la, lc⟩, ⟨xa, xc⟩, ⟨na, nc⟩⟩ : LSl).x.a X.wide.length (⟨⟨pa, pc⟩, ⟨la, lc⟩, ⟨xa, xc⟩, ⟨na, nc⟩⟩ : LSl).x.cap, .slice (⟨⟨pa, pc⟩, ⟨la, lc⟩, ⟨xa, xc⟩, ⟨na, nc⟩⟩ : LSl).n.a X.noted.length (⟨⟨pa, pc⟩, ⟨la, lc⟩, ⟨xa, xc⟩, ⟨na, nc⟩⟩ : LSl).n.cap, .int .u8 X.end_, .int .u8 X.least, .int .u8 X.most] 36) := by rw [hw3, hn3, hn2]; exact blk_alloc (blk_new' _ _ (by simp)) _
  dsimp only at x3
  have x4 : w3.heap[n4]? = some (Obj.cells #[.string ByteArray.empty, .int .i64 0, .int .i64 0, .int .i64 0, .int .i64 0, .int .i64 0, .int .i64 0, .slice none 0 0, .slice none 0 0, .slice none 0 0, .int .i64 0, .int .i64 0, .slice none 0 0] 31) := by rw [hw3, hn4, hn3, hn2]; exact blk_new' _ _ (by simp)
  have hE3 : Ext2 w w3 := by rw [hw3]; exact ext_trans (ext_trans (below_alloc' _ _) (below_alloc' _ _)) (below_alloc' _ _)
  rw [← hn2]
  try rw [← hn3]
  try rw [← hn4]
  have HE3 := Lib.hid hE3; have X2 := Lib.hid x2; have X3 := Lib.hid x3; have X4 := Lib.hid x4
  have HN4 : Hid (w.heap.size ≤ n4) := Lib.hid (by omega)
  clear hw3 hn2 hn3 hn4 hE3 x4
  have q2c := cell_blk x2
  have q2f := frz_blk x2
  clear x2 x3
  go_upto_region 2 with (fail)
  refine wp_name ?_
  intro w4 hw4
  obtain ⟨n5, hn5⟩ : ∃ n, n = w3.heap.size := ⟨_, rfl⟩
  have x5 : w4.heap[n5]? = some (Obj.cells #[.int .i64 35, .int .i64 16, .int .i64 8] 3) := by rw [hw4, hn5]; exact blk_new _ _
  have hE4 : Ext2 w3 w4 := by rw [hw4]; exact below_alloc' _ _
  rw [← hn5]
  have HE34 := Lib.hid hE4; have X5 := Lib.hid x5
  have x2 := Ext2.blk hE4 X2.out
  clear hw4 hn5 hE4 q2c q2f x5
  have q2c := cell_blk x2
  have q2f := frz_blk x2
  clear x2
  go_upto_region 3 with (fail)
  refine wp_name ?_
  intro w5 hw5
  obtain ⟨n8, hn8⟩ : ∃ n, n = w4.heap.size := ⟨_, rfl⟩
  have x8 : w5.heap[n8]? = some (Obj.cells #[.string T.reel.name, .int .i64 T.reel.gauge, .int .i64 T.reel.base, .int .i64 T.reel.frames, .int .i64 T.reel.ylo, .int .i64 T.reel.yhi, .int .i64 T.reel.keep, .slice t.r.m.a T.reel.marks.length t.r.m.cap, .slice t.r.s.a T.reel.syms.length t.r.s.cap, .slice t.r.l.a T.reel.lens.length t.r.l.cap, .int .i64 T.whole.lo, .int .i64 T.whole.hi, .slice t.n.a T.notes.length t.n.cap] 31) := by rw [hw5, hn8]; exact blk_new _ _
  have hE5 : Ext2 w4 w5 := by rw [hw5]; exact below_alloc' _ _
  rw [← hn8]
  have HN8 := Lib.hid hn8; have X8 := Lib.hid x8; have HE45 := Lib.hid hE5
  have x3 := Ext2.blk hE5 (Ext2.blk HE34.out X3.out); have x5 := Ext2.blk hE5 X5.out
  clear hw5 hn8 hE5 q2c q2f
  obtain ⟨m3, hm3⟩ : ∃ m : Nat, (m : Int) = X.gauge % 3 := ⟨(X.gauge % 3).toNat, by omega⟩
  have hm3l : m3 < 3 := by omega
  obtain ⟨G, hG⟩ : ∃ G, G = gaugeV X.gauge := ⟨_, rfl⟩
  have c5 : w5.cell? ⟨n5, m3, none⟩ = some (.int .i64 G) := by
    rw [cell_blk x5, hG]; unfold gaugeV; rw [← hm3]
    rcases (by omega : m3 = 0 ∨ m3 = 1 ∨ m3 = 2) with rfl | rfl | rfl <;> rfl
  have hgb := HOK.out.gauge; have hfb := HOK.out.first
  have w1' : IntKind.i64.wrap X.gauge = X.gauge := IntWalk.i64_in _ (by omega)
  have hrem : X.gauge.tmod 3 = (m3 : Int) := by rw [Int.tmod_eq_emod_of_nonneg (by omega)]; exact hm3.symm
  have g1 : (0 : Int) ≤ (m3 : Int) := by omega
  have g2 : (m3 : Int) < 3 := by omega
  have HG := Lib.hid hG
  have q3c := cell_blk x3
  have q3f := frz_blk x3
  have q8c := cell_blk x8
  have q8f := frz_blk x8
  clear x3 x5 x8 hm3 hm3l hgb hfb hG
  go_upto_region 4 with (fail)
  refine wp_name ?_
  intro w6 hw6
  have hb6 : Ext2 w4 w6 := by rw [hw6]; exact below_set (below_set (below_set (below_set HE45.out (by rw [HN8.out]; exact Nat.le_refl _)) (by rw [HN8.out]; exact Nat.le_refl _)) (by rw [HN8.out]; exact Nat.le_refl _)) (by rw [HN8.out]; exact Nat.le_refl _)
  have x8 : w6.heap[n8]? = some (Obj.cells #[.string T.reel.name, .int .i64 G, .int .i64 T.reel.base, .int .i64 T.reel.frames, .int .i64 T.reel.ylo, .int .i64 T.reel.yhi, .int .i64 T.reel.keep, (.slice none 0 0), .slice t.r.s.a T.reel.syms.length t.r.s.cap, .slice none 0 0, .int .i64 T.whole.lo, .int .i64 T.whole.hi, (.slice none 0 0)] 31) := by rw [hw6]; exact Eq.trans (blk_set (blk_set (blk_set (blk_set X8.out _ _) _ _) _ _) _ _) rfl
  have hI : MdI n8 T t G (mdK (lsV X) 0) (.slice none 0 0) (.slice none 0 0) (.slice none 0 0) (.slice none 0 0) (.slice none 0 0) (.slice none 0 0) w4 w6 := ⟨hb6, HN8.out.symm, blk_lt x8, x8, own_nil _ _ _ _ _, own_nil _ _ _ _ _, own_nil _ _ _ _ _, own_nil _ _ _ _ _, Apart.nil _⟩
  have HI := Lib.hid hI
  have HE4 := Lib.hid (ext_trans HE3.out HE34.out)
  have Y3 := Lib.hid (Ext2.blk HE34.out X3.out)
  have X44 := Lib.hid (Ext2.blk HE34.out X4.out)
  have x3 := Ext2.blk hb6 Y3.out
  obtain ⟨foot, hft⟩ : ∃ f, f = footV G := ⟨_, rfl⟩
  have hfi := foot_in X.gauge
  rw [← HG.out] at HFT hfi
  rw [← hft] at HFT hfi
  obtain ⟨L, hL⟩ : ∃ L, L = lsV X := ⟨_, rfl⟩
  have hLf : L.foot = foot := by rw [hL, hft, HG.out]; rfl
  have HLf := Lib.hid hLf; have HL := Lib.hid hL; have HFI := Lib.hid hfi; have HFV := Lib.hid hft
  rw [← hL] at HI
  have q3c := cell_blk x3
  have q3f := frz_blk x3
  have q8c := cell_blk x8
  have q8f := frz_blk x8
  clear hw6 hb6 hI x3 x8 c5 g1 g2 hrem w1' hft hfi hL hLf HE45 HE34 HE3 X8 X5 X3
  go_wp2_with (fail)
  (with_reducible refine (HFT.out _).mono ?_)
  rintro e w7 ⟨rfl, hE7⟩
  have HI7 := Lib.hid (HI.out.ext hE7)
  have x3 := Ext2.blk HI7.out.bel Y3.out
  have hfb := HOK.out.first
  have w1' : IntKind.i64.wrap X.first = X.first := IntWalk.i64_in _ (by omega)
  have hrem : X.first.tmod 3000 = X.first % 3000 := Int.tmod_eq_emod_of_nonneg (by omega)
  have hrem2 : X.first % 3000 = L.first := by rw [HL.out]; rfl
  rw [hrem2] at hrem
  have q3c := cell_blk x3
  have q3f := frz_blk x3
  clear x3 hfb q8c q8f hE7 HI HFT hrem2
  go_wp2_with (fail)
  clear q3c q3f hrem w1'
  go_loopw [11, 12, 13, 14, 15] (fun av hv tv nv iv W => ∃ (i : Nat) (mv nt : Value), iv = .int .i64 i ∧ i ≤ 8 ∧ i ≤ X.pieces.length ∧ tv = .int .i64 (mdK L i).at_ ∧ nv = .int .i64 ((mdK L i).number : Int) ∧ MdI n8 T t G (mdK L i) av hv mv nt mv nt w4 W) (fun _ _ _ _ iv _ => 8 - (intOf iv).toNat)
  case atStart => exact ⟨0, _, _, rfl, by omega, by omega, rfl, rfl, HI7.out⟩
  case round =>
    clear HI7
    obtain ⟨i, mv, nt, rfl, hi8, hip, rfl, rfl, hI⟩ := hrel
    obtain ⟨s, hs⟩ : ∃ s, s = mdK L i := ⟨_, rfl⟩
    have hbd := md_b HOK.out i
    rw [← HL.out, ← hs] at hbd
    rw [← hs] at hI ⊢
    have HS := Lib.hid hs; have HBD := Lib.hid hbd
    obtain ⟨⟨ma, mc⟩, hmv, -⟩ := hI.marks.sl
    obtain ⟨⟨nta, ntc⟩, hnt, -⟩ := hI.notes.sl
    obtain ⟨⟨aa, ac⟩, hav, -⟩ := hI.all.sl
    obtain ⟨⟨ha, hc⟩, hhv, -⟩ := hI.ahead.sl
    dsimp only at hmv hnt hav hhv
    subst hmv hnt hav hhv
    have HI := Lib.hid hI
    have x3 := Ext2.blk hI.bel Y3.out
    have q3c := cell_blk x3
    have q3f := frz_blk x3
    clear x3 hI hs hbd
    by_cases hlt : i < X.pieces.length ∧ i < 8
    · go_light
      have HEW := Lib.hid (ext_trans HE4.out HI.out.bel)
      obtain ⟨pb, poff, hpa, hc⟩ := RowS.at (HPR.out.below HEW.out) (by omega) hlt.1
      have c0 := hc 0 (by omega); have c1 := hc 1 (by omega)
      have hpin := pc_in HOK.out i
      rw [← HL.out] at hpin
      replace c0 : wr.cell? ⟨pb, poff + i * 2, none⟩ = some (.int .u8 (pcL L i).1) := by rw [HL.out]; exact c0
      replace c1 : wr.cell? ⟨pb, poff + i * 2 + 1, none⟩ = some (.int .u8 (pcL L i).2) := by rw [HL.out]; exact c1
      obtain ⟨P1, hP1⟩ : ∃ x, x = (pcL L i).1 := ⟨_, rfl⟩
      obtain ⟨P2, hP2⟩ : ∃ x, x = (pcL L i).2 := ⟨_, rfl⟩
      rw [← hP1] at c0 hpin; rw [← hP2] at c1 hpin
      dsimp only at hpa
      subst hpa
      have HP1 := Lib.hid hP1; have HP2 := Lib.hid hP2; have HPIN := Lib.hid hpin
      have g1 : (0 : Int) ≤ (i : Int) := by omega
      have g2 : (i : Int) < (X.pieces.length : Int) := by omega
      have g3 : (i : Int) < 8 := by omega
      have e1 : decide ((0 : Int) ≤ (i : Int)) = true := decide_eq_true g1
      have e2 : decide ((i : Int) < (X.pieces.length : Int)) = true := decide_eq_true g2
      have w1' : IntKind.i64.wrap P1 = P1 := IntWalk.i64_in _ (by omega)
      have w2' : IntKind.i64.wrap P2 = P2 := IntWalk.i64_in _ (by omega)
      have w3' : IntKind.i64.wrap (1 + P1) = 1 + P1 := IntWalk.i64_in _ (by omega)
      have w4' : IntKind.i64.wrap ((i : Int) + 1) = (i : Int) + 1 := IntWalk.i64_in _ (by omega)
      have HIL := Lib.hid hlt
      clear hP1 hP2 hpin hc hlt
      go_upto_region 11 with (fail)
      refine region_ev [] [0, 1, 2, 3, 4, 5, 6, 7, 8, 9, 10, 11, 12, 13, 14, 15, 16] [] [] (by kernel_rfl) (by kernel_rfl) (by intro c a d v w h; cases d <;> exact h) ?_
      simp only [picks, List.drop_succ_cons, List.drop_zero]
      repeat (refine wpQ0_step (fun K hK => ?_); go_simp; (refine hK _ ?_; clear hK K))
      refine wpQ0_nil ?_
      repeat ((with_reducible refine wpQ2_step (fun K hK => ?_)); go_simp; first | ((with_reducible refine hK _ ?_); clear hK K) | (apply Exists.intro; refine ⟨fun x => ?_, hK _ ?_⟩; (fail); clear hK K) | (refine ite_undef (fun h => (by have h_ : (none : Option Bool) = some _ := h; cases h_)) ?_; (with_reducible refine hK _ ?_); clear hK K))
      (with_reducible refine wpQ2_nil ?_)
      refine Events.none_ fun w8 hg8 => ?_
      simp only [picks, List.drop_succ_cons, List.drop_zero]
      have HI8 := Lib.hid (HI.out.ext hg8)
      have HEW8 := Lib.hid (ext_trans HE4.out HI8.out.bel)
      have x3 := Ext2.blk HI8.out.bel Y3.out
      clear c0 c1 hg8 q3c q3f HI HEW w1' w2' w3' e1 e2
      have q3c := cell_blk x3
      have q3f := frz_blk x3
      clear x3
      have HT1 := Lib.hid (HTL.out _ HEW8.out i (by have := HIL.out; omega))
      obtain ⟨A1, hA1⟩ : ∃ x, x = turnV X.leaders i := ⟨_, rfl⟩
      have ha1 := turn_in HOK.out.leaders i
      have hln : ledN L i = turnV X.leaders i % 40 := by rw [HL.out]; rfl
      rw [← hA1] at HT1 ha1 hln
      have w1' : IntKind.i64.wrap (A1 % 40) = A1 % 40 := IntWalk.i64_in _ (by omega)
      have hrem : A1.tmod 40 = A1 % 40 := Int.tmod_eq_emod_of_nonneg (by omega)
      have hli := ledN_in L i
      obtain ⟨n, hn⟩ : ∃ n : Nat, (n : Int) = ledN L i := ⟨(ledN L i).toNat, by omega⟩
      rw [← hln, ← hn] at hrem w1'
      have hn4 : n < 40 := by omega
      have HN := Lib.hid hn; have HN4 := Lib.hid hn4
      clear hA1 ha1 hln hli hn hn4
      go_wp2_with (fail)
      (with_reducible refine HT1.out.mono ?_)
      rintro e w9 ⟨rfl, hE9⟩
      have HI9 := Lib.hid (HI8.out.ext hE9)
      have HEW9 := Lib.hid (ext_trans HE4.out HI9.out.bel)
      clear hE9 q3c q3f HI8 HEW8 HT1
      go_upto_if 81 with fail
      go_cut [11, 12, 19] from 81 to 107 (fun av hv _ wx => ∃ mv nt : Value, MdI n8 T t G (ledS L i s) av hv mv nt mv nt w4 wx)
      case first =>
        --[
        by_cases h0 : 0 < n
        · have h0' : (0 : Int) < (n : Int) := by omega
          have hn4 := HN4.out
          have hbd := HBD.out
          have hal := hbd.all; have hnl := hbd.notes
          have HLD : Hid (ledS L i s = ledK (eveS L i s) n) := Lib.hid (by rw [ledS_pos (by rw [← HN.out]; exact h0'), ← HN.out]; rfl)
          have x8 := HI9.out.out
          have w5' : IntKind.i64.wrap ((s.all.length : Int) + (n : Int)) = (s.all.length : Int) + (n : Int) := IntWalk.i64_in _ (by omega)
          have w6' : IntKind.i64.wrap ((s.all.length : Int) + (n : Int) - 1) = (s.all.length : Int) + (n : Int) - 1 := IntWalk.i64_in _ (by omega)
          have q8c := cell_blk x8
          have q8f := frz_blk x8
          clear x8 hbd hrem w1'
          go_wp2_with (((at_builtin; refine app_one_at [.string ⟨#[101, 118, 101]⟩, .int .i64 ((i : Int) + 1), .int .i64 0, .int .i64 3, .int .i64 (s.all.length : Int), .int .i64 ((s.all.length : Int) + (n : Int) - 1), .int .i64 0, .int .i64 0] elNote rfl _ _ rfl (n8 + 1) rfl (HI9.out.notes.below (below_alloc' _ _)) w9.heap.size 1 rfl (blk_new _ _) (by simp [Value.oneCell']) ((by omega)) (by have := HI9.out.sz; simp; omega) ?_; intro v3 w10 hO3 hg3 _; (have HIc := Lib.hid (HI9.out.ext (below_alloc' w9 (.cells #[.string ⟨#[101, 118, 101]⟩, .int .i64 ((i : Int) + 1), .int .i64 0, .int .i64 3, .int .i64 (s.all.length : Int), .int .i64 ((s.all.length : Int) + (n : Int) - 1), .int .i64 0, .int .i64 0] 58 (0, 0))))); (obtain ⟨g7, cp7, hv7, -, -, -, -, -⟩ := own_some hO3 (by omega)); subst hv7; (have HI10 := Lib.hid (HIc.out.appNotes (x := (⟨eve, (i : Int) + 1, 0, 3, s.all.length, s.all.length + (n : Int) - 1, 0, 0⟩ : Note)) hg3 rfl hO3)); (have q8c := cell_blk HI10.out.out); (have q8f := frz_blk HI10.out.out); clear hO3 hg3 HIc)))
          refine wp_name ?_
          intro w11 hw11
          have hI11 := HI10.out.setN (.slice (some ⟨g7, 0, none⟩) (s.notes.length + 1) cp7)
          rw [← hw11] at hI11
          have HI11 : Hid (MdI n8 T t G (ledK (eveS L i s) 0) (.slice aa s.all.length ac) (.slice ha s.ahead.length hc) (.slice ma s.marks.length mc) (.slice (some ⟨g7, 0, none⟩) (s.notes.length + 1) cp7) (.slice ma s.marks.length mc) (.slice (some ⟨g7, 0, none⟩) (s.notes.length + 1) cp7) w4 w11) := Lib.hid (by rw [ledK_zero, eveS, ← HN.out]; exact hI11)
          clear hw11 hI11 q8c q8f HI10 HI9 w5' w6'
          go_wp2_with (fail)
          go_loopw [11, 12, 19] (fun av hv jv W => ∃ k : Nat, jv = .int .i64 k ∧ k ≤ n ∧ MdI n8 T t G (ledK (eveS L i s) k) av hv (.slice ma s.marks.length mc) (.slice (some ⟨g7, 0, none⟩) (s.notes.length + 1) cp7) (.slice ma s.marks.length mc) (.slice (some ⟨g7, 0, none⟩) (s.notes.length + 1) cp7) w4 W) (fun _ _ jv _ => n - (intOf jv).toNat)
          case atStart => exact ⟨0, rfl, by omega, HI11.out⟩
          case round =>
            clear HI11
            obtain ⟨k, rfl, hk, hI⟩ := hrel
            obtain ⟨⟨aa2, ac2⟩, hav, -⟩ := hI.all.sl
            obtain ⟨⟨ha2, hc2⟩, hhv, -⟩ := hI.ahead.sl
            dsimp only at hav hhv
            subst hav hhv
            have HIk := Lib.hid hI
            have hbk := (HBD.out.eve (X := L) (i := i)).led k
            have hka := hbk.all; have HKH := Lib.hid hbk.ahead
            clear hI hbk
            by_cases hlt : k < n
            · have w5' : IntKind.i64.wrap ((k : Int) + 1) = (k : Int) + 1 := IntWalk.i64_in _ (by omega)
              go_wp2_with (first | (at_builtin; refine app_one_at [.int .i64 (-1)] elInt rfl _ _ rfl (n8 + 1) rfl (HIk.out.all.below (below_alloc' _ _)) wr.heap.size 1 rfl (blk_new _ _) (by simp [Value.oneCell']) (by omega) (by have := HIk.out.sz; simp; omega) ?_; intro v1 w12 hO1 hg1 hp1; (have HIa := Lib.hid (HIk.out.ext (below_alloc' wr (.cells #[.int .i64 (-1)] 3 (0, 0))))); (have HI12 := Lib.hid (HIa.out.appAll hg1 rfl hp1 hO1)); skip; clear hO1 hg1 hp1 HIa) | (at_builtin; refine app_one_at [.int .i64 (0)] elInt rfl _ _ rfl (n8 + 1) rfl (HI12.out.ahead.below (below_alloc' _ _)) w12.heap.size 1 rfl (blk_new _ _) (by simp [Value.oneCell']) (by have := HKH.out; show (ledK (eveS L i s) k).ahead.length ≤ _; omega) (by have := HI12.out.sz; simp; omega) ?_; intro v2 w13 hO2 hg2 hp2; (have HIb := Lib.hid (HI12.out.ext (below_alloc' w12 (.cells #[.int .i64 (0)] 3 (0, 0))))); (have HI13 := Lib.hid (HIb.out.appAhead hg2 rfl hp2 hO2)); skip; clear hO2 hg2 hp2 HIb))
              go_roundw
              case rel => exact ⟨k + 1, by go_num, by omega, by rw [ledK_succ]; exact HI13.out⟩
              case measure => simp [intOf]; omega
            · obtain rfl : n = k := by omega
              have hnk : ¬ (n : Int) < (n : Int) := by omega
              go_wp2_with (fail)
              go_meet
              case rel => exact ⟨_, _, by rw [HLD.out]; exact HIk.out⟩
        · have hneg : ¬ (0 : Int) < (n : Int) := by omega
          have HLD : Hid (ledS L i s = s) := Lib.hid (ledS_neg (by rw [← HN.out]; exact hneg))
          go_wp2_with (fail)
          go_meet
          case rel => exact ⟨_, _, by rw [HLD.out]; exact HI9.out⟩
        --]
      case rest =>
        obtain ⟨mv, nt, hI⟩ := hcut
        obtain ⟨w12, rfl⟩ : ∃ x, x = wc := ⟨_, rfl⟩
        obtain ⟨s1, hs1⟩ : ∃ x, x = ledS L i s := ⟨_, rfl⟩
        have hbd := led_b HOK.out (i := i) HBD.out
        rw [← HL.out, ← hs1] at hbd
        rw [← hs1] at hI
        have HSM : Hid (s1.number = s.number ∧ s1.at_ = s.at_) := Lib.hid (by rw [hs1]; exact ledS_same L i s)
        have hlast : 0 < i → 0 < s1.all.length := fun h => by rw [hs1, HS.out]; exact led_pos (by rw [HL.out]; exact ls_in HOK.out) h
        obtain ⟨⟨ma1, mc1⟩, hmv, -⟩ := hI.marks.sl
        obtain ⟨⟨nta1, ntc1⟩, hnt, -⟩ := hI.notes.sl
        obtain ⟨⟨aa1, ac1⟩, hav, hRA⟩ := hI.all.sl
        obtain ⟨⟨ha1, hc1⟩, hhv, -⟩ := hI.ahead.sl
        dsimp only at hmv hnt hav hhv
        subst hmv hnt hav hhv
        have HIr := Lib.hid hI; have HS1 := Lib.hid hs1; have HB1 := Lib.hid hbd; have HLA := Lib.hid hlast; have HRA := Lib.hid hRA
        have HEWr := Lib.hid (ext_trans HE4.out HIr.out.bel)
        have HT2 := Lib.hid (HTN.out _ HEWr.out i (by have := HIL.out; omega))
        obtain ⟨A2, hA2⟩ : ∃ x, x = turnV X.noted i := ⟨_, rfl⟩
        have ha2 := turn_in HOK.out.noted i
        rw [← hA2] at HT2 ha2
        have HA2 : Hid (A2 = turnV L.noted i) := Lib.hid (by rw [hA2, HL.out]; rfl)
        have HA2b := Lib.hid ha2
        have x3 := Ext2.blk HIr.out.bel Y3.out
        have q3c := cell_blk x3
        have q3f := frz_blk x3
        clear hI hs1 hbd hlast hRA hA2 x3 hrem w1' HI9 HEW9 HBD
        go_wp2_with (fail)
        (with_reducible refine HT2.out.mono ?_)
        rintro e w13 ⟨rfl, hE13⟩
        have HI13 := Lib.hid (HIr.out.ext hE13)
        have HEW13 := Lib.hid (ext_trans HE4.out HI13.out.bel)
        have HRA13 := Lib.hid (RowS.below HRA.out hE13)
        clear hE13 q3c q3f HIr HEWr HT2
        obtain ⟨NB, hNB⟩ : ∃ b, b = notB L i s1 := ⟨_, rfl⟩
        have HNB := Lib.hid hNB
        have hm2 : A2.tmod 2 = A2 % 2 := Int.tmod_eq_emod_of_nonneg ha2.1
        have w1' : IntKind.i64.wrap (A2 % 2) = A2 % 2 := IntWalk.i64_in _ (by omega)
        clear hNB
        go_upto_region 20 with fail
        go_cut [127] from 112 to 127 (fun v wx => v = .bool NB ∧ wx = w13)
        case first =>
          --[
          by_cases h2 : A2 % 2 = 0
          · have b1 : (A2 % 2 == 0) = true := by simpa using h2
            have hB : NB = true := by rw [HNB.out]; unfold notB; rw [← HA2.out, decide_eq_true h2]; rfl
            subst hB
            clear h2
            go_wp2_with (fail)
            go_meet
            case rel => exact ⟨rfl, rfl⟩
          · have b1 : (A2 % 2 == 0) = false := by simpa using h2
            by_cases hi0 : 0 < i
            · have hls := HLA.out hi0
              obtain ⟨q, hq⟩ : ∃ q : Nat, s1.all.length = q + 1 := ⟨s1.all.length - 1, by omega⟩
              obtain ⟨b1, off1, hsa, c0⟩ := int_cell HRA13.out (i := q) (by omega)
              dsimp only at hsa
              subst hsa
              obtain ⟨v, hv⟩ : ∃ v, v = intD s1.all q := ⟨_, rfl⟩
              rw [← hv] at c0
              have hB : NB = decide (0 ≤ v) := by
                rw [HNB.out]; unfold notB
                rw [← HA2.out, decide_eq_false h2, decide_eq_true hi0, show s1.all.length - 1 = q by omega, ← hv]; rfl
              have hbl := HB1.out.all
              have hin := HIL.out.2
              have w2' : IntKind.i64.wrap ((s1.all.length : Int) - 1) = (q : Int) := by rw [IntWalk.i64_in _ (by omega)]; omega
              have g6 : (0 : Int) ≤ (q : Int) := by omega
              have g7 : (q : Int) < (s1.all.length : Int) := by omega
              have g8 : (0 : Int) < (i : Int) := by omega
              clear h2 hq hv hbl hin hls
              by_cases hv0 : 0 ≤ v
              · have d1 : decide (0 ≤ v) = true := decide_eq_true hv0
                rw [d1] at hB
                subst hB
                go_wp2_with (fail)
                go_meet
                case rel => exact ⟨rfl, rfl⟩
              · have d1 : decide (0 ≤ v) = false := decide_eq_false hv0
                rw [d1] at hB
                subst hB
                go_wp2_with (fail)
                go_meet
                case rel => exact ⟨rfl, rfl⟩
            · have g8 : ¬ (0 : Int) < (i : Int) := by omega
              have hB : NB = false := by rw [HNB.out]; unfold notB; rw [← HA2.out, decide_eq_false h2, decide_eq_false hi0]; rfl
              subst hB
              clear h2
              go_wp2_with (fail)
              go_meet
              case rel => exact ⟨rfl, rfl⟩
          --]
        case rest =>
          obtain ⟨rfl, hwc⟩ := hcut
          replace hwc := hwc.symm
          subst hwc
          clear hm2 w1' HRA HRA13 HLA
          go_upto_if 127 with fail
          go_cut [14, 21, 22] from 127 to 163 (fun nv _ _ wx => nv = .int .i64 ((notS L i P2 s1).number : Int) ∧ ∃ nt : Value, MdI n8 T t G (notS L i P2 s1) (.slice aa1 s1.all.length ac1) (.slice ha1 s1.ahead.length hc1) (.slice ma1 s1.marks.length mc1) nt (.slice ma1 s1.marks.length mc1) nt w4 wx)
          case first =>
            --[
            cases NB with
            | false =>
              have HNS : Hid (notS L i P2 s1 = s1) := Lib.hid (notS_neg HNB.out.symm)
              go_wp2_with (fail)
              go_meet
              case rel => exact ⟨by rw [HNS.out, HSM.out.1], _, by rw [HNS.out]; exact HI13.out⟩
            | true =>
              obtain ⟨N2, hn2⟩ : ∃ n : Nat, (n : Int) = A2 / 2 % 2 := ⟨(A2 / 2 % 2).toNat, by have := HA2b.out; omega⟩
              have hnb2 : N2 ≤ 1 := by omega
              have HNS : Hid (notS L i P2 s1 = splK L P2 s1 (N2 + 1)) := Lib.hid (by rw [notS_pos HNB.out.symm, ← HA2.out, ← hn2]; rfl)
              have ha2' := HA2b.out
              have q1 : A2.tdiv 2 = A2 / 2 := Int.tdiv_eq_ediv_of_nonneg ha2'.1
              have q2 : IntKind.i64.wrap (A2 / 2) = A2 / 2 := IntWalk.i64_in _ (by omega)
              have q3 : (A2 / 2).tmod 2 = (N2 : Int) := by rw [Int.tmod_eq_emod_of_nonneg (by omega)]; exact hn2.symm
              have q4 : IntKind.i64.wrap (N2 : Int) = (N2 : Int) := IntWalk.i64_in _ (by omega)
              clear hn2 ha2'
              have HN2 := Lib.hid hnb2
              go_wp2_with (fail)
              go_loopw [14, 21, 22] (fun nv jv _ W => ∃ (k : Nat) (nt : Value), jv = .int .i64 k ∧ k ≤ N2 + 1 ∧ nv = .int .i64 ((splK L P2 s1 k).number : Int) ∧ MdI n8 T t G (splK L P2 s1 k) (.slice aa1 s1.all.length ac1) (.slice ha1 s1.ahead.length hc1) (.slice ma1 s1.marks.length mc1) nt (.slice ma1 s1.marks.length mc1) nt w4 W) (fun _ jv _ _ => N2 + 1 - (intOf jv).toNat)
              case atStart => exact ⟨0, _, rfl, by omega, by rw [show (splK L P2 s1 0).number = s1.number from rfl, HSM.out.1], HI13.out⟩
              case round =>
                obtain ⟨k, nt, rfl, hk, rfl, hI⟩ := hrel
                obtain ⟨⟨nta2, ntc2⟩, hnt, -⟩ := hI.notes.sl
                dsimp only at hnt
                subst hnt
                have hbk := HB1.out.splK (X := L) (lost := P2) k
                obtain ⟨hal, -, -, -⟩ := splK_all L P2 s1 k
                have hsuc : splK L P2 s1 (k + 1) = splS L P2 (splK L P2 s1 k) := rfl
                obtain ⟨s2, hs2⟩ : ∃ x, x = splK L P2 s1 k := ⟨_, rfl⟩
                rw [← hs2] at hI hbk hal hsuc ⊢
                have hin := HIL.out.2
                have hnu := hbk.number; have hno := hbk.notes; have hab := hbk.all
                have HIk := Lib.hid hI; have HAL := Lib.hid hal; have HSU := Lib.hid hsuc
                have w5' : IntKind.i64.wrap ((k : Int) + 1) = (k : Int) + 1 := IntWalk.i64_in _ (by omega)
                by_cases hlt : k ≤ N2
                · have hlt' : (k : Int) ≤ (N2 : Int) := by omega
                  obtain ⟨a1, ha1⟩ : ∃ n : Nat, n = s2.number + 1 := ⟨_, rfl⟩
                  obtain ⟨a2, ha2⟩ : ∃ n : Nat, n = a1 + 1 := ⟨_, rfl⟩
                  have w6' : IntKind.i64.wrap ((s2.number : Int) + 1) = (a1 : Int) := by rw [IntWalk.i64_in _ (by omega)]; omega
                  have w7' : IntKind.i64.wrap ((a1 : Int) + 1) = (a2 : Int) := by rw [IntWalk.i64_in _ (by omega)]; omega
                  obtain ⟨B1, hB1⟩ : ∃ x, x = turnV X.wide a1 := ⟨_, rfl⟩
                  obtain ⟨B2, hB2⟩ : ∃ x, x = turnV X.wide a2 := ⟨_, rfl⟩
                  have hb1 := turn_in HOK.out.wide a1; have hb2 := turn_in HOK.out.wide a2
                  rw [← hB1] at hb1; rw [← hB2] at hb2
                  have HEWk := Lib.hid (ext_trans HE4.out HIk.out.bel)
                  have HW1 : Hid (∀ W, Ext2 wr W → Calls Tryz.prog 14 #[.slice xa X.wide.length xc, .int .i64 (a1 : Int)] W fun e w' => e = .returned (.int .i64 B1) ∧ Below W.heap.size W w') := Lib.hid fun W hW => by rw [hB1]; exact HTW.out W (ext_trans HEWk.out hW) a1 (by omega)
                  have HW2 : Hid (∀ W, Ext2 wr W → Calls Tryz.prog 14 #[.slice xa X.wide.length xc, .int .i64 (a2 : Int)] W fun e w' => e = .returned (.int .i64 B2) ∧ Below W.heap.size W w') := Lib.hid fun W hW => by rw [hB2]; exact HTW.out W (ext_trans HEWk.out hW) a2 (by omega)
                  have hpi := HPIN.out.2.2
                  have w8' : IntKind.i64.wrap (P2 - B1) = P2 - B1 := IntWalk.i64_in _ (by omega)
                  have w9' : IntKind.i64.wrap (P2 + B2) = P2 + B2 := IntWalk.i64_in _ (by omega)
                  have HSP : Hid (splK L P2 s1 (k + 1) = { { s2 with number := a1 } with notes := s2.notes ++ [⟨ada, (a1 : Int), 0, 1, s1.all.length, s1.all.length, max 0 (P2 - B1), P2 + B2⟩] }) := Lib.hid (by
                    rw [HSU.out]; unfold splS
                    have e1 : L.wide = X.wide := by rw [HL.out]; rfl
                    rw [← ha1, show s2.number + 2 = a2 by omega, HAL.out, e1, ← hB1, ← hB2, show ((s2.number : Int) + 1) = (a1 : Int) by omega])
                  have x3 := Ext2.blk HIk.out.bel Y3.out
                  have q3c := cell_blk x3
                  have q3f := frz_blk x3
                  clear hI hbk hal hsuc hs2 hB1 hB2 hb1 hb2 ha1 ha2 x3 hpi
                  go_upto_region 25 with (fail)
                  refine region_ev [] [0, 1, 2, 3, 4, 5, 6, 7, 8, 9, 10, 11, 12, 13, 14] [(15, 22, some 16)] [] (by kernel_rfl) (by kernel_rfl) (by intro c a d v w h; cases d <;> exact h) ?_
                  simp only [picks, List.drop_succ_cons, List.drop_zero]
                  repeat (refine wpQ0_step (fun K hK => ?_); go_simp; (refine hK _ ?_; clear hK K))
                  refine wpQ0_nil ?_
                  repeat ((with_reducible refine wpQ2_step (fun K hK => ?_)); go_simp; first | ((with_reducible refine hK _ ?_); clear hK K) | (apply Exists.intro; refine ⟨fun x => ?_, hK _ ?_⟩; ((first | (with_reducible exact HW1.out x.1 x.2) | (with_reducible exact HW2.out x.1 x.2))); clear hK K) | (refine ite_undef (fun h => (by have h_ : (none : Option Bool) = some _ := h; cases h_)) ?_; (with_reducible refine hK _ ?_); clear hK K))
                  (with_reducible refine wpQ2_nil ?_)
                  refine Events.fill1 (fun b => .pointer (some ⟨b, 0, none⟩)) (Obj.cells #[.int .i64 (0), .int .i64 (0)] 23) (Obj.cells #[.int .i64 (max 0 (P2 - B1)), .int .i64 (P2 + B2)] 23) ⟨_, rfl, rfl, rfl, fun W => by kernel_rfl⟩ ⟨_, rfl, rfl, rfl, fun b W hb => ?_⟩ fun n15 w15 hn15 hg15 nn15 => ?_
                  · have hbc := cell_blk hb; have hbf := frz_blk hb; go_simp; exact turn_two hb _ _
                  simp only [picks, List.drop_succ_cons, List.drop_zero]
                  have HI15 := Lib.hid ((HIk.out.ext hg15).number a1)
                  have x8 := HI15.out.out
                  clear q3c q3f hg15 hn15 HIk
                  have q8c := cell_blk x8
                  have q8f := frz_blk x8
                  have q15c := cell_blk nn15
                  have q15f := frz_blk nn15
                  clear x8 nn15
                  go_wp2_with (((at_builtin; refine app_one_at [.string ⟨#[97, 100, 97]⟩, .int .i64 (a1 : Int), .int .i64 0, .int .i64 1, .int .i64 (s1.all.length : Int), .int .i64 (s1.all.length : Int), .int .i64 (max 0 (P2 - B1)), .int .i64 (P2 + B2)] elNote rfl _ _ rfl (n8 + 1) rfl (HI15.out.notes.below (below_alloc' _ _)) w15.heap.size 1 rfl (blk_new _ _) (by simp [Value.oneCell']) ((by show s2.notes.length ≤ _; omega)) (by have := HI15.out.sz; simp; omega) ?_; intro v3 w16 hO3 hg3 _; (have HIc := Lib.hid (HI15.out.ext (below_alloc' w15 (.cells #[.string ⟨#[97, 100, 97]⟩, .int .i64 (a1 : Int), .int .i64 0, .int .i64 1, .int .i64 (s1.all.length : Int), .int .i64 (s1.all.length : Int), .int .i64 (max 0 (P2 - B1)), .int .i64 (P2 + B2)] 58 (0, 0))))); (obtain ⟨g7, cp7, hv7, -, -, -, -, -⟩ := own_some hO3 (by omega)); subst hv7; (have HI16 := Lib.hid (HIc.out.appNotes (x := (⟨ada, (a1 : Int), 0, 1, s1.all.length, s1.all.length, max 0 (P2 - B1), P2 + B2⟩ : Note)) hg3 rfl hO3)); (have q8c := cell_blk HI16.out.out); (have q8f := frz_blk HI16.out.out); clear hO3 hg3 HIc)))
                  go_roundw
                  case rel => exact ⟨k + 1, _, by go_num, by omega, by rw [HSP.out], by rw [HSP.out]; exact HI16.out.setN _⟩
                  case measure => simp [intOf]; omega
                · obtain rfl : k = N2 + 1 := by omega
                  have hlt' : ¬ ((N2 + 1 : Nat) : Int) ≤ (N2 : Int) := by omega
                  have HS2 := Lib.hid hs2
                  clear hI hbk hal hsuc hs2
                  go_wp2_with (fail)
                  go_meet
                  case rel => exact ⟨by rw [HNS.out, ← HS2.out], _, by rw [HNS.out, ← HS2.out]; exact HIk.out⟩
            --]
          case rest =>
            obtain ⟨rfl, nt, hI⟩ := hcut
            obtain ⟨w14, rfl⟩ : ∃ x, x = wc := ⟨_, rfl⟩
            obtain ⟨hq1, hq2, hq3, hq4⟩ := notS_same L i P2 s1
            have hbd := (not_b HOK.out (i := i) (lost := P2) HB1.out).late (lost := P2) HPIN.out.2.2
            rw [← HL.out] at hbd
            have hI2 := hI.at_ ((notS L i P2 s1).at_ + P2)
            have HNX : Hid (mdK L (i + 1) = frmK L P2 (lateS P2 (notS L i P2 s1)) (1 + P1).toNat) := Lib.hid (by
              show pceS L i (mdK L i) = _
              unfold pceS
              rw [← HS.out, ← HS1.out, ← HP1.out, ← HP2.out])
            have hla : lateS P2 (notS L i P2 s1) = { notS L i P2 s1 with at_ := (notS L i P2 s1).at_ + P2 } := rfl
            rw [← hla] at hI2
            have hat : (lateS P2 (notS L i P2 s1)).at_ = s.at_ + P2 := by show (notS L i P2 s1).at_ + P2 = _; rw [hq4, HSM.out.2]
            obtain ⟨NM, hnm⟩ : ∃ n, n = (notS L i P2 s1).number := ⟨_, rfl⟩
            have hnm2 : (lateS P2 (notS L i P2 s1)).number = NM := hnm.symm
            have hl1 : (lateS P2 (notS L i P2 s1)).all.length = s1.all.length := by show (notS L i P2 s1).all.length = _; rw [hq1]
            have hl2 : (lateS P2 (notS L i P2 s1)).ahead.length = s1.ahead.length := by show (notS L i P2 s1).ahead.length = _; rw [hq2]
            obtain ⟨s3, hs3⟩ : ∃ x, x = lateS P2 (notS L i P2 s1) := ⟨_, rfl⟩
            rw [← hs3] at hI2 hbd HNX hat hnm2 hl1 hl2
            rw [← hnm]
            obtain ⟨⟨nta3, ntc3⟩, hnt, -⟩ := hI2.notes.sl
            dsimp only at hnt
            subst hnt
            have HI14 := Lib.hid hI2; have HB3 := Lib.hid hbd; have HAT := Lib.hid hat; have HNM := Lib.hid hnm2; have HL1 := Lib.hid hl1; have HL2 := Lib.hid hl2
            obtain ⟨fr, hfr⟩ : ∃ n : Nat, (n : Int) = 1 + P1 := ⟨(1 + P1).toNat, by have := HPIN.out; omega⟩
            have HFR := Lib.hid hfr
            have hb0 := hbd.at0; have hb1 := hbd.at1
            rw [hat] at hb0 hb1
            have hin := HIL.out.2
            have w1' : IntKind.i64.wrap (s.at_ + P2) = s.at_ + P2 := IntWalk.i64_in _ (by omega)
            rw [← hfr]
            clear hq1 hq2 hq3 hq4 hbd hI hI2 hla hat hnm hnm2 hl1 hl2 hs3 hfr hb0 hb1 hin HI13 HEW13 HB1 HNB HA2 HA2b
            go_wp2_with (fail)
            go_loopw [11, 12, 13, 23] (fun av hv tv jv W => ∃ (k : Nat) (mv : Value), jv = .int .i64 k ∧ k ≤ fr ∧ tv = .int .i64 (frmK L P2 s3 k).at_ ∧ MdI n8 T t G (frmK L P2 s3 k) av hv mv (.slice nta3 s3.notes.length ntc3) mv (.slice nta3 s3.notes.length ntc3) w4 W) (fun _ _ _ jv _ => fr - (intOf jv).toNat)
            case atStart => exact ⟨0, _, rfl, by omega, by rw [← HAT.out]; rfl, HI14.out⟩
            case round =>
              clear HI14
              obtain ⟨k, mv, rfl, hk, rfl, hI⟩ := hrel
              obtain ⟨⟨ma4, mc4⟩, hmv, -⟩ := hI.marks.sl
              obtain ⟨⟨aa4, ac4⟩, hav, -⟩ := hI.all.sl
              obtain ⟨⟨ha4, hc4⟩, hhv, -⟩ := hI.ahead.sl
              dsimp only at hmv hav hhv
              subst hmv hav hhv
              have hbk := HB3.out.frmK (X := L) (q := P2) k
              have hsuc : frmK L P2 s3 (k + 1) = frm L (if k = 0 then P2 else 0) (frmK L P2 s3 k) := rfl
              obtain ⟨s4, hs4⟩ : ∃ x, x = frmK L P2 s3 k := ⟨_, rfl⟩
              rw [← hs4] at hI hbk hsuc ⊢
              have hin := HIL.out.2; have hpi := HPIN.out; have hfr := HFR.out
              have hab := hbk.all; have HAH := Lib.hid hbk.ahead; have ha0 := hbk.at0; have ha1 := hbk.at1
              have HIk := Lib.hid hI; have HSU := Lib.hid hsuc; have HS4 := Lib.hid hs4
              have hkf : k ≤ 256 := by omega
              have w5' : IntKind.i64.wrap ((k : Int) + 1) = (k : Int) + 1 := IntWalk.i64_in _ (by omega)
              clear hI hbk hsuc hs4 hpi hfr
              by_cases hlt : k < fr
              · have w6' : IntKind.i64.wrap (s4.at_ + 1) = s4.at_ + 1 := IntWalk.i64_in _ (by omega)
                have hanb : s4.ahead.length ≤ 100000 := by have := HAH.out; omega
                have HANB := Lib.hid hanb
                go_upto_region 33 with (first | (at_builtin; refine app_one_at [.int .i64 (s4.at_)] elInt rfl _ _ rfl (n8 + 1) rfl (HIk.out.all.below (below_alloc' _ _)) wr.heap.size 1 rfl (blk_new _ _) (by simp [Value.oneCell']) (by omega) (by have := HIk.out.sz; simp; omega) ?_; intro v1 w15 hO1 hg1 hp1; (have HIa := Lib.hid (HIk.out.ext (below_alloc' wr (.cells #[.int .i64 (s4.at_)] 3 (0, 0))))); (have HI15 := Lib.hid (HIa.out.appAll hg1 rfl hp1 hO1)); (obtain ⟨g6, cp6, hv6, -, -, -, -, -⟩ := own_some hO1 (by omega)); subst hv6; clear hO1 hg1 hp1 HIa) | (at_builtin; refine app_one_at [.int .i64 (0)] elInt rfl _ _ rfl (n8 + 1) rfl (HI15.out.ahead.below (below_alloc' _ _)) w15.heap.size 1 rfl (blk_new _ _) (by simp [Value.oneCell']) (by have := HAH.out; show s4.ahead.length ≤ _; omega) (by have := HI15.out.sz; simp; omega) ?_; intro v2 w16 hO2 hg2 hp2; (have HIb := Lib.hid (HI15.out.ext (below_alloc' w15 (.cells #[.int .i64 (0)] 3 (0, 0))))); (have HI16 := Lib.hid (HIb.out.appAhead hg2 rfl hp2 hO2)); (obtain ⟨g9, cp9, hv9, -, -, -, -, -⟩ := own_some hO2 (by omega)); subst hv9; clear hO2 hg2 hp2 HIb))
                go_upto_if 180 with fail
                go_cut [12] from 179 to 186 (fun hv' wx => hv' = .slice (some ⟨g9, 0, none⟩) (s4.ahead.length + 1) cp9 ∧ MdI n8 T t G { { s4 with all := s4.all ++ [s4.at_] } with ahead := s4.ahead ++ [if k = 0 then P2 else 0] } (.slice (some ⟨g6, 0, none⟩) (s4.all.length + 1) cp6) hv' (.slice ma4 s4.marks.length mc4) (.slice nta3 s3.notes.length ntc3) (.slice ma4 s4.marks.length mc4) (.slice nta3 s3.notes.length ntc3) w4 wx)
                case first =>
                  by_cases hk0 : k = 0
                  · have b0 : ((k : Int) == 0) = true := by simp [hk0]
                    have hc1 := HI16.out.ahead
                    have hcl : ({ { s4 with all := s4.all ++ [s4.at_] } with ahead := s4.ahead ++ [0] } : Md).ahead.length = s4.ahead.length + 1 := by show (s4.ahead ++ [0]).length = _; rw [List.length_append, List.length_singleton]
                    have key : ∀ m, m = s4.ahead.length + 1 → OwnR w16 (n8 + 1) 3 1 (.slice (some ⟨g9, 0, none⟩) (s4.ahead.length + 1) cp9) m (intC (s4.ahead ++ [0])) → OwnR w16 (n8 + 1) 3 1 (.slice (some ⟨g9, 0, none⟩) (s4.ahead.length + 1) cp9) (s4.ahead.length + 1) (intC (s4.ahead ++ [0])) := by rintro _ rfl h; exact h
                    obtain ⟨c0, f0, l0, -⟩ := (key _ hcl hc1).cell1 (i := s4.ahead.length) (Nat.lt_succ_self _)
                    have w7' : IntKind.i64.wrap ((s4.ahead.length : Int) + 1 - 1) = (s4.ahead.length : Int) := by rw [IntWalk.i64_in _ (by omega)]; omega
                    have HK0 := Lib.hid hk0
                    have g1 : (0 : Int) ≤ (s4.ahead.length : Int) := by omega
                    have g2 : (s4.ahead.length : Int) < (s4.ahead.length : Int) + 1 := by omega
                    clear hc1 hcl hk0 key
                    go_wp2_with (fail)
                    go_meet
                    case rel => exact ⟨rfl, by rw [if_pos HK0.out]; exact HI16.out.setL (A := s4.ahead) (x := 0) rfl rfl⟩
                  · have b0 : ((k : Int) == 0) = false := by simp; omega
                    have HK0 := Lib.hid hk0
                    clear hk0
                    go_wp2_with (fail)
                    go_meet
                    case rel => exact ⟨rfl, by rw [if_neg HK0.out]; exact HI16.out⟩
                case rest =>
                  obtain ⟨rfl, hI⟩ := hcut
                  obtain ⟨w17, rfl⟩ : ∃ x, x = wc := ⟨_, rfl⟩
                  obtain ⟨aw, haw⟩ : ∃ x, x = (if k = 0 then P2 else 0) := ⟨_, rfl⟩
                  rw [← haw] at hI
                  have HSV : Hid (frmK L P2 s3 (k + 1) = frm L aw s4) := Lib.hid (by rw [HSU.out, ← haw])
                  have HI17 := Lib.hid (hI.at_ (s4.at_ + 1))
                  have hft := HFI.out; have hlf := HLf.out; have hlr : L.first = X.first % 3000 := by rw [HL.out]; rfl
                  have hlo : L.roll = X.roll % 100 := by rw [HL.out]; rfl
                  have hxr := HOK.out.roll
                  obtain ⟨F1, hF1⟩ : ∃ x, x = L.first + s4.at_ := ⟨_, rfl⟩
                  have w7' : IntKind.i64.wrap (L.first + s4.at_) = F1 := by rw [hF1]; exact IntWalk.i64_in _ (by omega)
                  have hF0 : 0 ≤ F1 ∧ F1 ≤ 100000 := by omega
                  have q1 : F1.tmod foot = F1 % foot := Int.tmod_eq_emod_of_nonneg hF0.1
                  have q2 : IntKind.i64.wrap (F1 % foot) = F1 % foot := by
                    have h1 := Int.emod_nonneg F1 (b := foot) (by omega)
                    have h2 := Int.emod_lt_of_pos F1 (b := foot) (by omega)
                    exact IntWalk.i64_in _ (by omega)
                  have q3 : ¬ foot = 0 := by omega
                  have q3' : ¬ foot = -1 := by omega
                  have HQ3 := Lib.hid hft
                  have x8 := HI17.out.out
                  clear hI haw hft
                  have q8c := cell_blk x8
                  have q8f := frz_blk x8
                  clear x8
                  by_cases hm0 : F1 % foot = 0
                  · have b1 : (F1 % foot == 0) = true := by simpa using hm0
                    by_cases hm6 : s4.marks.length < 60
                    · have b2 : (s4.marks.length : Int) < 60 := by omega
                      have HFE : Hid (frmK L P2 s3 (k + 1) = { { { s4 with all := s4.all ++ [s4.at_] } with ahead := s4.ahead ++ [aw] } with at_ := s4.at_ + 1, marks := s4.marks ++ [⟨s4.all.length, L.roll, F1 / foot⟩] }) := Lib.hid (by rw [HSV.out]; unfold frm; rw [HLf.out, ← hF1, if_pos ⟨hm0, hm6⟩])
                      have q4 : F1.tdiv foot = F1 / foot := Int.tdiv_eq_ediv_of_nonneg hF0.1
                      have hdv : 0 ≤ F1 / foot ∧ F1 / foot ≤ 100000 := ⟨Int.ediv_nonneg hF0.1 (by have := HQ3.out; omega), Int.le_trans (Int.ediv_le_self _ hF0.1) hF0.2⟩
                      have q5 : IntKind.i64.wrap (F1 / foot) = F1 / foot := IntWalk.i64_in _ (by omega)
                      have q6 : IntKind.i64.wrap X.roll = X.roll := IntWalk.i64_in _ (by omega)
                      have q7 : X.roll.tmod 100 = X.roll % 100 := Int.tmod_eq_emod_of_nonneg (by omega)
                      rw [← hlo] at q7
                      have q8 : IntKind.i64.wrap L.roll = L.roll := IntWalk.i64_in _ (by omega)
                      have hl17 : (s4.all ++ [s4.at_]).length = s4.all.length + 1 := by rw [List.length_append, List.length_singleton]
                      have HM6 := Lib.hid hm6
                      have q9 : IntKind.i64.wrap ((s4.all.length : Int) + 1 - 1) = (s4.all.length : Int) := by rw [IntWalk.i64_in _ (by omega)]; omega
                      have q10 : IntKind.i64.wrap (s4.all.length : Int) = (s4.all.length : Int) := IntWalk.i64_in _ (by omega)
                      have x3 := Ext2.blk HI17.out.bel Y3.out
                      have q3c := cell_blk x3
                      have q3f := frz_blk x3
                      clear x3 hm0 hm6 hF1 hlr hlo hlf hdv
                      go_upto_region 36 with (fail)
                      refine region_ev [] [0, 1, 2, 3, 4, 5, 6, 7, 8, 9, 10, 11, 12, 13, 14, 15] [(16, 216, none)] [17, 18, 19, 20] (by kernel_rfl) (by kernel_rfl) (by intro c a d v w h; cases d <;> exact h) ?_
                      simp only [picks, List.drop_succ_cons, List.drop_zero]
                      repeat (refine wpQ0_step (fun K hK => ?_); go_simp; (refine hK _ ?_; clear hK K))
                      refine wpQ0_nil ?_
                      repeat ((with_reducible refine wpQ2_step (fun K hK => ?_)); go_simp; first | ((with_reducible refine hK _ ?_); clear hK K) | (apply Exists.intro; refine ⟨fun x => ?_, hK _ ?_⟩; (fail); clear hK K) | (refine ite_undef (fun h => (by have h_ : (none : Option Bool) = some _ := h; cases h_)) ?_; (with_reducible refine hK _ ?_); clear hK K))
                      (with_reducible refine wpQ2_nil ?_)
                      refine Events.lay1 (fun b => .slice (some ⟨b, 0, none⟩) 1 1) (Obj.cells #[.int .i64 (s4.all.length : Int), .int .i64 L.roll, .int .i64 (F1 / foot)] 68 (0, 0)) ⟨_, rfl, rfl, rfl, fun W => by kernel_rfl⟩ fun bq w18 hbq hg18 nbq => ?_
                      simp only [picks, List.drop_succ_cons, List.drop_zero]
                      have HI18 := Lib.hid (HI17.out.ext hg18); have NBQ := Lib.hid nbq
                      clear q3c q3f q8c q8f hg18 hbq nbq HI17 q1 q2 q4 q5 q6 q7 q8 q9 q10 w7'
                      go_wp2_with (at_builtin; go_loud (refine app_one_at [.int .i64 (s4.all.length : Int), .int .i64 L.roll, .int .i64 (F1 / foot)] elMark rfl _ _ rfl (n8 + 1) rfl HI18.out.marks bq 1 rfl NBQ.out (by simp [Value.oneCell']) (by have := HM6.out; show s4.marks.length ≤ _; omega) (by have := HI18.out.sz; omega) ?_; intro v5 w19 hO5 hg5 _; (obtain ⟨g5, cp5, hv5, -, -, -, -, -⟩ := own_some hO5 (by omega)); subst hv5; (have HI19 := Lib.hid (HI18.out.appMarks (x := (⟨(s4.all.length : Int), L.roll, F1 / foot⟩ : D.Mark)) hg5 rfl hO5)); (have q8c := cell_blk HI19.out.out); (have q8f := frz_blk HI19.out.out); clear hO5 hg5))
                      go_roundw
                      case rel => exact ⟨k + 1, _, by go_num, by omega, by rw [HFE.out], by rw [HFE.out]; exact HI19.out.setM _⟩
                      case measure => simp [intOf]; omega
                    · have b2 : ¬ (s4.marks.length : Int) < 60 := by omega
                      have HFE : Hid (frmK L P2 s3 (k + 1) = { { { s4 with all := s4.all ++ [s4.at_] } with ahead := s4.ahead ++ [aw] } with at_ := s4.at_ + 1 }) := Lib.hid (by rw [HSV.out]; unfold frm; rw [HLf.out, ← hF1, if_neg (fun h => hm6 h.2)])
                      clear hm0 hm6 hF1 hlr hlo hlf
                      go_wp2_with (fail)
                      go_roundw
                      case rel => exact ⟨k + 1, _, by go_num, by omega, by rw [HFE.out], by rw [HFE.out]; exact HI17.out⟩
                      case measure => simp [intOf]; omega
                  · have b1 : (F1 % foot == 0) = false := by simpa using hm0
                    have HFE : Hid (frmK L P2 s3 (k + 1) = { { { s4 with all := s4.all ++ [s4.at_] } with ahead := s4.ahead ++ [aw] } with at_ := s4.at_ + 1 }) := Lib.hid (by rw [HSV.out]; unfold frm; rw [HLf.out, ← hF1, if_neg (fun h => hm0 h.1)])
                    clear hm0 hF1 hlr hlo hlf
                    go_wp2_with (fail)
                    go_roundw
                    case rel => exact ⟨k + 1, _, by go_num, by omega, by rw [HFE.out], by rw [HFE.out]; exact HI17.out⟩
                    case measure => simp [intOf]; omega
              · obtain rfl : fr = k := by omega
                have hlt' : ¬ (fr : Int) < (fr : Int) := by omega
                have HXE : Hid (s4 = mdK L (i + 1)) := Lib.hid (by rw [HNX.out, HS4.out, ← HFR.out]; rfl)
                have HNB2 : Hid (s4.number = NM) := Lib.hid (by rw [HS4.out, ← HNM.out, frmK_num])
                have hilt := HIL.out
                go_wp2_with (fail)
                go_roundw
                case rel => exact ⟨i + 1, _, _, by go_num, by omega, by omega, by rw [← HXE.out], by rw [← HXE.out, HNB2.out], by rw [← HXE.out]; exact HIk.out⟩
                case measure => simp [intOf]; omega
    · have hi : i = min X.pieces.length 8 := by omega
      have HMV : Hid (s = mdV X) := Lib.hid (by rw [HS.out, HL.out, hi]; rfl)
      have hbd := HBD.out
      have hal := hbd.all; have ha0 := hbd.at0; have ha1 := hbd.at1
      have he := HOK.out.end_; have hle := HOK.out.least; have hmo := HOK.out.most
      clear hi
      go_upto_region 9 with fail
      go_cut [57] from 49 to 57 (fun v wx => v = .bool false ∧ wx = wr)
      case first =>
        by_cases h1 : i < X.pieces.length
        · have g1 : (i : Int) < (X.pieces.length : Int) := by omega
          have g2 : ¬ (i : Int) < 8 := by omega
          go_wp2_with (fail)
          go_meet
          case rel => exact ⟨rfl, rfl⟩
        · have g1 : ¬ (i : Int) < (X.pieces.length : Int) := by omega
          go_wp2_with (fail)
          go_meet
          case rel => exact ⟨rfl, rfl⟩
      case rest =>
        obtain ⟨rfl, hwc⟩ := hcut
        replace hwc := hwc.symm
        subst hwc
        have w1 : IntKind.i64.wrap X.end_ = X.end_ := IntWalk.i64_in _ (by omega)
        have w2 : IntKind.i64.wrap X.least = X.least := IntWalk.i64_in _ (by omega)
        have w3' : IntKind.i64.wrap X.most = X.most := IntWalk.i64_in _ (by omega)
        have w4' : IntKind.i64.wrap (s.at_ + X.end_) = s.at_ + X.end_ := IntWalk.i64_in _ (by omega)
        have w5' : IntKind.i64.wrap (s.at_ + X.end_ - X.least) = s.at_ + X.end_ - X.least := IntWalk.i64_in _ (by omega)
        have w6' : IntKind.i64.wrap (s.at_ + X.end_ + X.most) = s.at_ + X.end_ + X.most := IntWalk.i64_in _ (by omega)
        have x8 := HI.out.out
        have q8c := cell_blk x8
        have q8f := frz_blk x8
        clear hlt hbd x8
        go_upto_region 41 with (fail)
        refine wp_name ?_
        intro w20 hw20
        have x8 : w20.heap[n8]? = some (Obj.cells #[.string T.reel.name, .int .i64 G, .int .i64 T.reel.base, .int .i64 (s.all.length : Int), .int .i64 T.reel.ylo, .int .i64 T.reel.yhi, .int .i64 T.reel.keep, .slice ma s.marks.length mc, .slice t.r.s.a T.reel.syms.length t.r.s.cap, .slice none 0 0, .int .i64 (max 1 (s.at_ + X.end_ - X.least)), .int .i64 (s.at_ + X.end_ + X.most), .slice nta s.notes.length ntc] 31) := by rw [hw20]; exact Eq.trans (blk_set (blk_set (blk_set HI.out.out _ _) _ _) _ _) rfl
        have hb20 : Ext2 w4 w20 := by rw [hw20]; exact below_set (below_set (below_set HI.out.bel (by rw [HI.out.lb]; exact Nat.le_refl _)) (by rw [HI.out.lb]; exact Nat.le_refl _)) (by rw [HI.out.lb]; exact Nat.le_refl _)
        have hab : Above (n8 + 1) wr w20 := by rw [hw20]; exact Above.set (Above.set (Above.set (Above.refl _ _) (.inl (by omega))) (.inl (by omega))) (.inl (by omega))
        have HA := Lib.hid (HI.out.all.above hab); have HH := Lib.hid (HI.out.ahead.above hab); have HM := Lib.hid (HI.out.marks.above hab); have HNo := Lib.hid (HI.out.notes.above hab)
        have HB20 := Lib.hid hb20
        have Y4 := Lib.hid (Ext2.blk hb20 X44.out)
        have q8c := cell_blk x8
        have q8f := frz_blk x8
        clear hw20 hb20 hab x8
        go_wp2_with ((with_reducible refine wpList_store_row (o := ⟨none, .store 31 (.tmp 4) (.tmp 244), _, _, _, _⟩) ?a1 31 (.tmp 4) (.tmp 244) ?a2 n4 #[.string T.reel.name, .int .i64 G, .int .i64 T.reel.base, .int .i64 (s.all.length : Int), .int .i64 T.reel.ylo, .int .i64 T.reel.yhi, .int .i64 T.reel.keep, .slice ma s.marks.length mc, .slice t.r.s.a T.reel.syms.length t.r.s.cap, .slice none 0 0, .int .i64 (max 1 (s.at_ + X.end_ - X.least)), .int .i64 (s.at_ + X.end_ + X.most), .slice nta s.notes.length ntc] ?a3 ?a4 31 ?old ?a5 (taskM_info _ rfl) ?a7 ?a8 ?a9); (case a1 => rfl); (case a2 => rfl); (case a3 => rfl); (case a4 => rfl); (case a5 => exact Y4.out); (case a7 => rfl); (case a8 => simp [Value.oneCell']); refine wpL_name ?_; intro w21 hw21; (have HW21 := Lib.hid hw21); clear hw21)
        have z4 : w21.heap[n4]? = some (Obj.cells #[.string T.reel.name, .int .i64 G, .int .i64 T.reel.base, .int .i64 (s.all.length : Int), .int .i64 T.reel.ylo, .int .i64 T.reel.yhi, .int .i64 T.reel.keep, .slice ma s.marks.length mc, .slice t.r.s.a T.reel.syms.length t.r.s.cap, .slice none 0 0, .int .i64 (max 1 (s.at_ + X.end_ - X.least)), .int .i64 (s.at_ + X.end_ + X.most), .slice nta s.notes.length ntc] 31) := by rw [HW21.out]; exact setRow_heap _ _ _ _ _ _ Y4.out
        have hn48 : n4 < n8 := by have := blk_lt X44.out; rw [HN8.out]; exact this
        have hg21 := grown_setRow w20 n4 #[.string T.reel.name, .int .i64 G, .int .i64 T.reel.base, .int .i64 (s.all.length : Int), .int .i64 T.reel.ylo, .int .i64 T.reel.yhi, .int .i64 T.reel.keep, .slice ma s.marks.length mc, .slice t.r.s.a T.reel.syms.length t.r.s.cap, .slice none 0 0, .int .i64 (max 1 (s.at_ + X.end_ - X.least)), .int .i64 (s.at_ + X.end_ + X.most), .slice nta s.notes.length ntc]
        rw [← HW21.out] at hg21
        have hA := HA.out.kept hg21 (.inr fun h => by have := own_ge HA.out _ h; omega)
        have hH := HH.out.kept hg21 (.inr fun h => by have := own_ge HH.out _ h; omega)
        have hM := HM.out.kept hg21 (.inr fun h => by have := own_ge HM.out _ h; omega)
        have hNo := HNo.out.kept hg21 (.inr fun h => by have := own_ge HNo.out _ h; omega)
        have hbw : Below w.heap.size w w21 := by rw [HW21.out]; exact below_setRow (ext_trans HE4.out HB20.out) HN4.out _
        have HZA := Lib.hid hA; have HZH := Lib.hid hH; have HZM := Lib.hid hM; have HZN := Lib.hid hNo; have HBW := Lib.hid hbw
        clear hg21 hA hH hM hNo hbw q8c q8f hn48 w1 w2 w3' w4' w5' w6' hal ha0 ha1 he hle hmo
        have key : MdeOut w T X (.returned (.tuple #[.agg #[.string T.reel.name, .int .i64 G, .int .i64 T.reel.base, .int .i64 (s.all.length : Int), .int .i64 T.reel.ylo, .int .i64 T.reel.yhi, .int .i64 T.reel.keep, .slice ma s.marks.length mc, .slice t.r.s.a T.reel.syms.length t.r.s.cap, .slice none 0 0, .int .i64 (max 1 (s.at_ + X.end_ - X.least)), .int .i64 (s.at_ + X.end_ + X.most), .slice nta s.notes.length ntc], .slice aa s.all.length ac, .slice ha s.ahead.length hc])) w21 := by
          have hmt : madeT T X = ⟨⟨T.reel.name, G, T.reel.base, (s.all.length : Int), T.reel.ylo, T.reel.yhi, T.reel.keep, s.marks, T.reel.syms, []⟩, ⟨max 1 (s.at_ + X.end_ - X.least), s.at_ + X.end_ + X.most⟩, s.notes⟩ := by unfold madeT; rw [← HMV.out, ← HG.out]
          unfold MdeOut
          rw [hmt, ← HMV.out]
          exact ⟨HBW.out, ⟨⟨⟨ma, mc⟩, t.r.s, ⟨none, 0⟩⟩, ⟨nta, ntc⟩⟩, ⟨aa, ac⟩, ⟨ha, hc⟩, rfl, ⟨⟨own_row HZM.out, HT.out.reel.sy.below HBW.out, ⟨Nat.le_refl _, by simp, fun i j hi _ => absurd hi (Nat.not_lt_zero i)⟩, HT.out.reel.size⟩, own_row HZN.out, by have h := made_notes HOK.out; rw [← HMV.out] at h; exact h⟩, own_row HZA.out, own_row HZH.out⟩
        have KEY := Lib.hid key
        refine bodyPost_ret (v := .tuple #[.agg #[.string T.reel.name, .int .i64 G, .int .i64 T.reel.base, .int .i64 (s.all.length : Int), .int .i64 T.reel.ylo, .int .i64 T.reel.yhi, .int .i64 T.reel.keep, .slice ma s.marks.length mc, .slice t.r.s.a T.reel.syms.length t.r.s.cap, .slice none 0 0, .int .i64 (max 1 (s.at_ + X.end_ - X.least)), .int .i64 (s.at_ + X.end_ + X.most), .slice nta s.notes.length ntc], .slice aa s.all.length ac, .slice ha s.ahead.length hc]) ?_ rfl KEY.out
        exact results_row2 (P := Tryz.prog) (fn := Tryz.f5) rfl _ _ n4 31 _ (0, 0) _ _ _ rfl rfl rfl z4 Tryz.underlying31 rfl (taskM_info _ rfl)
end Go.Proofs.YtapeakbngligaaaGreatDoor
