/-
  bench.Find.
-/
import Derived.Test.YtapeakbngligaaaGreatDoorBPlc
namespace Go.Proofs.YtapeakbngligaaaGreatDoor.D
def fndK (N : List Note) (F : Nat) (al : List Grp) (wh : Int) (k : Nat) : List Span := ((pieceK N F).take k).foldl (findS N al wh) []
theorem fndK_succ {N : List Note} {F : Nat} {al : List Grp} {wh : Int} {k : Nat} (hk : k < (pieceK N F).length) : fndK N F al wh (k + 1) = findS N al wh (fndK N F al wh k) (pcD (pieceK N F) k) := by
  unfold fndK
  rw [List.take_succ_eq_append_getElem hk, List.foldl_append]
  unfold pcD; rw [List.getD_eq_getElem?_getD, List.getElem?_eq_getElem hk]; rfl
theorem findS_len (N : List Note) (al : List Grp) (wh : Int) (out : List Span) (p : Piece) : (findS N al wh out p).length ≤ out.length + 1 := by
  unfold findS
  split
  · omega
  · simp only
    split
    · omega
    · split
      · simp
      · simp
theorem fndK_len {N : List Note} {F : Nat} {al : List Grp} {wh : Int} : ∀ {k : Nat}, k ≤ (pieceK N F).length → (fndK N F al wh k).length ≤ k
  | 0, _ => by simp [fndK]
  | k + 1, h => by
    rw [fndK_succ (by omega)]
    have := fndK_len (N := N) (F := F) (al := al) (wh := wh) (k := k) (by omega)
    have := findS_len N al wh (fndK N F al wh k) (pcD (pieceK N F) k)
    omega
end Go.Proofs.YtapeakbngligaaaGreatDoor.D
namespace Go.Proofs.YtapeakbngligaaaGreatDoor
open Go.RowKit D
set_option linter.unusedVariables false
set_option linter.unusedSimpArgs false
attribute [local go_sem high] run_minI run_maxI
attribute [local go_sem] upon2 cls_cell cls_frozen forall_const exists_eq_left'
attribute [local go_sem] FirstUpon atBlk_cell Oper.semAt_some
theorem place_bound {f : Int} : ∀ {l : List Grp} {S : Span} {b : Int}, (∀ g ∈ l, GrpOk g) → (-b ≤ S.lo ∧ S.lo ≤ b) → (-b ≤ S.hi ∧ S.hi ≤ b) → (-(b + 100000000000 * l.length) ≤ (l.foldl (placeS f) S).lo ∧ (l.foldl (placeS f) S).lo ≤ b + 100000000000 * l.length) ∧ (-(b + 100000000000 * l.length) ≤ (l.foldl (placeS f) S).hi ∧ (l.foldl (placeS f) S).hi ≤ b + 100000000000 * l.length)
  | [], S, b, _, h1, h2 => by simp; omega
  | g :: l, S, b, h, h1, h2 => by
    have hp := part_in (h g (by simp)) fun x => decide (x.frame ≤ f)
    have ih := place_bound (f := f) (l := l) (S := placeS f S g) (b := b + 100000000000) (fun x hx => h x (by simp [hx])) (by rw [placeS_at]; simp only; omega) (by rw [placeS_at]; simp only; omega)
    rw [List.foldl_cons]
    simp only [List.length_cons]
    omega
theorem place_in {N : List Note} {al : List Grp} (h : ∀ g ∈ al, GrpOk g) (hl : al.length ≤ 100) {f : Nat} (hf : f ≤ 200000) : (-20000000000000 ≤ (placeG N al f).lo ∧ (placeG N al f).lo ≤ 20000000000000) ∧ (-20000000000000 ≤ (placeG N al f).hi ∧ (placeG N al f).hi ≤ 20000000000000) := by
  have hp := picB_upto N f
  rw [placeG_fold]
  have := place_bound (f := (f : Int)) (l := al) (S := ⟨picB N f, picB N f⟩) (b := 200000) h (by simp only; omega) (by simp only; omega)
  omega
/-- All blocks below A but one stay. -/
def Kp (b0 A : Nat) (W W' : World) : Prop := ∀ (b : Nat) (c : Array Value) (e : TypeId) (f : Nat × Nat), b < A → b ≠ b0 → W.heap[b]? = some (.cells c e f) → W'.heap[b]? = some (.cells c e f)
theorem Kp.ext {b0 A : Nat} {W W' : World} (h : Ext2 W W') : Kp b0 A W W' := fun b c e f _ _ hb => h.blk hb
theorem Kp.below {b0 A : Nat} {W W' : World} (h : Below A W W') : Kp b0 A W W' := fun b c e f hA _ hb => (h.block b hA).trans hb
theorem Kp.bx {b0 A : Nat} {W W' : World} (h : Bx b0 W W') : Kp b0 A W W' := fun b c e f _ hn hb => (h.block b (blk_lt hb) hn).trans hb
theorem Kp.bw {b0 A B : Nat} {ts : Nat → TypeId → Prop} {W W' : World} (h : Bw B ts W W') (ht : ∀ b e, b < A → b ≠ b0 → ¬ ts b e) : Kp b0 A W W' := fun b c e f hA hn hb => h.blk hb (ht b e hA hn)
theorem Kp.trans {b0 A : Nat} {W W1 W2 : World} (h : Kp b0 A W W1) (g : Kp b0 A W1 W2) : Kp b0 A W W2 := fun b c e f hA hn hb => g b c e f hA hn (h b c e f hA hn hb)
theorem cell_obj {W : World} {a : Addr} {v : Value} (h : W.cell? a = some v) : ∃ c e f, W.heap[a.block]? = some (.cells c e f) := by
  unfold World.cell? at h
  split at h
  · rename_i hb; exact ⟨_, _, _, hb⟩
  · cases h
theorem RowS.kp {W W' : World} {s : Sl} {sz n b0 A : Nat} {c : Nat → Nat → Value} (h : RowS W s sz n c) (hs : ∀ b off, s.a = some ⟨b, off, none⟩ → 0 < n → 0 < sz → b < A ∧ b ≠ b0) (hk : Kp b0 A W W') : RowS W' s sz n c :=
  ⟨h.le, h.max, fun i j hi hj => by
    obtain ⟨b, off, ha, hc⟩ := h.cell i j hi hj
    obtain ⟨h1, h2⟩ := hs b off ha (by omega) (by omega)
    obtain ⟨cs, e, f, ho⟩ := cell_obj hc
    refine ⟨b, off, ha, ?_⟩
    have h3 := hk b cs e f h1 h2 ho
    unfold World.cell? at hc ⊢
    rw [h3]; rw [ho] at hc; exact hc⟩
theorem row_ne {W : World} {s : Sl} {sz n b0 : Nat} {c : Nat → Nat → Value} {x : Value} {t : TypeId} (h : RowS W s sz n c) (hz : 1 < sz) (hb : W.heap[b0]? = some (.cells #[x] t (0, 0))) : ∀ b off, s.a = some ⟨b, off, none⟩ → 0 < n → 0 < sz → b < W.heap.size ∧ b ≠ b0 := fun b off ha hn hz0 => by
  refine ⟨h.block ha hn hz0, fun he => ?_⟩
  obtain ⟨b', off', ha', hc⟩ := h.cell 0 1 hn hz
  rw [ha] at ha'
  obtain ⟨rfl, rfl⟩ : b = b' ∧ off = off' := by simpa using ha'
  subst he
  rw [cell_blk hb] at hc
  have : (#[x] : Array Value)[off + 0 * sz + 1]? = none := Array.getElem?_eq_none (by simp)
  rw [this] at hc; cases hc
theorem Tab.kp {T : Task} {t : TSl} {N : List Note} {ns : Sl} {B g F n4 : Nat} {W0 W W' : World} {x : Value} (h0 : Tab W0 T t N ns B g F) (hx : W0.heap[n4]? = some (.cells #[x] 73 (0, 0))) (h : Tab W T t N ns B g F) (hk : Kp n4 W0.heap.size W W') : Tab W' T t N ns B g F :=
  ⟨⟨hk _ _ _ _ (blk_lt h0.tab.blk) (fun he => by have h1 := h0.tab.blk; rw [he, hx] at h1; simp only [Option.some.injEq, Obj.cells.injEq] at h1; exact absurd h1.2.1 (by decide)) h.tab.blk, h.tab.nt.kp (row_ne h0.tab.nt (by omega) hx) hk⟩,
    hk _ _ _ _ (blk_lt h0.pic) (fun he => by have h1 := h0.pic; rw [he, hx] at h1; simp only [Option.some.injEq, Obj.cells.injEq] at h1; exact absurd h1.2.1 (by decide)) h.pic, h.mks.kp (row_ne h0.mks (by omega) hx) hk, h.ok, h.fr⟩
theorem GrpsS.kp {s : Sl} {hs : Nat → Sl} {l : List Grp} {n4 : Nat} {W0 W W' : World} {x : Value} (h0 : GrpsS W0 s hs l) (hx : W0.heap[n4]? = some (.cells #[x] 73 (0, 0))) (h : GrpsS W s hs l) (hk : Kp n4 W0.heap.size W W') : GrpsS W' s hs l :=
  ⟨h.row.kp (row_ne h0.row (by omega) hx) hk, fun i hi => (h.each i hi).kp (row_ne (h0.each i hi) (by omega) hx) hk, h.ok⟩
structure FdC where
  n3 : Nat
  n4 : Nat
  n6 : Nat
  n7 : Nat
  bx : Nat
  A : Nat
  T : Task
  t : TSl
  N : List Note
  ns : Sl
  B : Nat
  g : Nat
  F : Nat
  sa : Sl
  hs : Nat → Sl
  al : List Grp
  wh : Int
/-- What Find holds besides what it gathers. -/
structure FdK (c : FdC) (w W : World) : Prop where
  bel : Below w.heap.size w W
  b3 : W.heap[c.n3]? = some (.cells #[.int .i64 c.wh] 3 (0, 0))
  b6 : W.heap[c.n6]? = some (.cells #[.pointer (some ⟨c.B, 0, none⟩)] 84 (0, 0))
  b7 : W.heap[c.n7]? = some (.cells #[.slice c.sa.a c.al.length c.sa.cap] 87 (0, 0))
  pic : PicAt c.bx c.T c.t c.N c.ns c.B c.g c.F W
  grp : GrpsS W c.sa c.hs c.al
structure FdN (c : FdC) (w W0 : World) : Prop where
  a : w.heap.size ≤ c.n3
  b : c.n3 < c.n4
  d : c.n4 < c.n6
  e : c.n6 < c.n7
  f : c.n7 < c.bx
  g : c.bx < c.A
  sz : W0.heap.size = c.A
  k : FdK c w W0
  x : ∃ x, W0.heap[c.n4]? = some (.cells #[x] 73 (0, 0))
section
variable {c : FdC} {w W0 W W' : World}
theorem PicAt.kp (h0 : FdN c w W0) (h : PicAt c.bx c.T c.t c.N c.ns c.B c.g c.F W) (hk : Kp c.n4 c.A W W') : PicAt c.bx c.T c.t c.N c.ns c.B c.g c.F W' := by
  obtain ⟨x, hx⟩ := h0.x
  have h1 := h0.b; have h2 := h0.d; have h3 := h0.e; have h4 := h0.f; have h5 := h0.g
  exact ⟨hk _ _ _ _ h5 (by omega) h.box, h0.k.pic.tab.kp hx h.tab (by rw [h0.sz]; exact hk)⟩
theorem FdK.kp (h0 : FdN c w W0) (h : FdK c w W) (hk : Kp c.n4 c.A W W') (hb : Below w.heap.size W W') : FdK c w W' := by
  obtain ⟨x, hx⟩ := h0.x
  have h1 := h0.b; have h2 := h0.d; have h3 := h0.e; have h4 := h0.f; have h5 := h0.g
  exact ⟨h.bel.trans hb, hk _ _ _ _ (by omega) (by omega) h.b3, hk _ _ _ _ (by omega) (by omega) h.b6, hk _ _ _ _ (by omega) (by omega) h.b7, h.pic.kp h0 hk, h0.k.grp.kp hx h.grp (by rw [h0.sz]; exact hk)⟩
theorem FdK.ext (h0 : FdN c w W0) (h : FdK c w W) (hE : Ext2 W W') : FdK c w W' := h.kp h0 (Kp.ext hE) (hE.mono h.bel.size)
end
def fdT (n4 A : Nat) (C g : Nat) (_ : TypeId) : Prop := g = n4 ∨ (C ≤ g ∧ A ≤ g)
/-- Between two rounds of Find. -/
structure FdI (c : FdC) (w : World) (C k : Nat) (W : World) : Prop where
  kk : FdK c w W
  sz : C ≤ W.heap.size
  out : ∃ v, W.heap[c.n4]? = some (.cells #[v] 73 (0, 0)) ∧ OwnR W C 23 2 v (fndK c.N c.F c.al c.wh k).length (spC (fndK c.N c.F c.al c.wh k))
theorem FdI.ext {c : FdC} {w W0 W W' : World} {C k : Nat} (h0 : FdN c w W0) (h : FdI c w C k W) (hE : Ext2 W W') : FdI c w C k W' := by
  obtain ⟨h1, h2, v, h3, h4⟩ := h
  exact ⟨h1.ext h0 hE, Nat.le_trans h2 hE.size, v, hE.blk h3, h4.below hE⟩
theorem FdI.sb {c : FdC} {w W0 W W' : World} {C k : Nat} (h0 : FdN c w W0) (h : FdI c w C k W) (hs : Sb c.A C W W') : FdI c w C k W' := by
  obtain ⟨h1, h2, v, h3, h4⟩ := h
  have a := h0.a; have b := h0.b; have d := h0.d; have e := h0.e; have f := h0.f; have g := h0.g
  exact ⟨h1.kp h0 (Kp.below hs.bel) (hs.bel.mono (by omega)), Nat.le_trans h2 hs.bel.size, v, (hs.bel.block _ (by omega)).trans h3, h4.sb hs (Nat.le_refl _)⟩
theorem own_cells {w : World} {base g cap n i : Nat} {e : TypeId} {l : List Span} (h : OwnR w base e 2 (.slice (some ⟨g, 0, none⟩) n cap) n (spC l)) (hi : i < n) : w.cell? ⟨g, i * 2, none⟩ = some (.int .i64 (spD l i).lo) ∧ w.cell? ⟨g, i * 2 + 1, none⟩ = some (.int .i64 (spD l i).hi) ∧ w.frozen? ⟨g, i * 2 + 1, none⟩ = false := by
  obtain ⟨g2, cp2, hv2, hge2, -, -, hrow, hfz⟩ := own_some h (by omega)
  cases hv2
  obtain ⟨c0, c1⟩ := hrow.two (i := i) hi
  simp only [spC, Nat.zero_add] at c0 c1
  exact ⟨c0, c1, hfz _⟩
def FndOut (w : World) (A : List Span × Int) (e : Ending) (w' : World) : Prop := (∃ s1 : Sl, e = .returned (.tuple #[.slice s1.a A.1.length s1.cap, .int .i64 A.2]) ∧ SpansS w' s1 A.1) ∧ Below w.heap.size w w'
theorem fnd_none {w W : World} {X : List Span × Int} {E : Int} (h : X = ([], E)) (hW : Below w.heap.size w W) : FndOut w X (.returned (.tuple #[.slice none 0 0, .int .i64 E])) W := ⟨⟨⟨none, 0⟩, by rw [h]; rfl, by rw [h]; exact row_none⟩, hW⟩
set_option maxRecDepth 100000 in
set_option maxHeartbeats 8000000 in
theorem findF_any {T : Task} {t : TSl} {wh : Int} {w : World} (hT : TaskAt w T t) (hm : MaxAt w) : Calls Tryz.prog 19 #[.agg #[.string T.reel.name, .int .i64 T.reel.gauge, .int .i64 T.reel.base, .int .i64 T.reel.frames, .int .i64 T.reel.ylo, .int .i64 T.reel.yhi, .int .i64 T.reel.keep, .slice t.r.m.a T.reel.marks.length t.r.m.cap, .slice t.r.s.a T.reel.syms.length t.r.s.cap, .slice t.r.l.a T.reel.lens.length t.r.l.cap, .int .i64 T.whole.lo, .int .i64 T.whole.hi, .slice t.n.a T.notes.length t.n.cap], .int .i64 wh] w (FndOut w (findAns T wh)) := by
  have HLY := Lib.hid fun (W : World) (hW : Ext2 w W) => lay_any (hT.below hW) (hm.below hW)
  obtain ⟨E, hE⟩ : ∃ E, E = (checkV T).2.2 := ⟨_, rfl⟩
  have HEE := Lib.hid hE
  obtain ⟨N, hN⟩ : ∃ N, N = standV T.notes := ⟨_, rfl⟩
  have HNN := Lib.hid hN
  have HL2 : Hid (∀ W, Ext2 w W → Calls Tryz.prog 24 #[.agg #[.string T.reel.name, .int .i64 T.reel.gauge, .int .i64 T.reel.base, .int .i64 T.reel.frames, .int .i64 T.reel.ylo, .int .i64 T.reel.yhi, .int .i64 T.reel.keep, .slice t.r.m.a T.reel.marks.length t.r.m.cap, .slice t.r.s.a T.reel.syms.length t.r.s.cap, .slice t.r.l.a T.reel.lens.length t.r.l.cap, .int .i64 T.whole.lo, .int .i64 T.whole.hi, .slice t.n.a T.notes.length t.n.cap]] W fun e w' => Below W.heap.size W w' ∧ ((E ≠ 0 ∧ e = .returned (.tuple #[.pointer none, .int .i64 E])) ∨ (E = 0 ∧ ∃ (B g F : Nat) (ns : Sl), e = .returned (.tuple #[.pointer (some ⟨B, 0, none⟩), .int .i64 0]) ∧ Tab w' T t N ns B g F))) := Lib.hid fun W hW => (HLY.out W hW).mono fun e w' h => by rw [hE, hN]; exact h
  obtain ⟨X, hX⟩ : ∃ X, X = findAns T wh := ⟨_, rfl⟩
  have HX := Lib.hid hX
  rw [← hX]
  clear hT hm HLY hE hN hX
  refine calls_of_wp_marks Tryz.func19 rfl ?_
  simp only [Tryz.ntmps19, List.size_toArray, List.length_cons, List.length_nil, Nat.reduceAdd, Nat.reduceSub, Array.replicate_succ, Array.replicate_zero, List.push_toArray, List.append_toArray, List.nil_append, List.cons_append]
  go_upto_region 1 with (fail)
  refine wp_name ?_
  intro w3 hw3
  obtain ⟨n2, hn2⟩ : ∃ n, n = w.heap.size := ⟨_, rfl⟩
  obtain ⟨n3, hn3⟩ : ∃ n, n = n2 + 1 := ⟨_, rfl⟩
  obtain ⟨n4, hn4⟩ : ∃ n, n = n3 + 1 := ⟨_, rfl⟩
  have x2 : w3.heap[n2]? = some (Obj.cells #[.string T.reel.name, .int .i64 T.reel.gauge, .int .i64 T.reel.base, .int .i64 T.reel.frames, .int .i64 T.reel.ylo, .int .i64 T.reel.yhi, .int .i64 T.reel.keep, .slice t.r.m.a T.reel.marks.length t.r.m.cap, .slice t.r.s.a T.reel.syms.length t.r.s.cap, .slice t.r.l.a T.reel.lens.length t.r.l.cap, .int .i64 T.whole.lo, .int .i64 T.whole.hi, .slice t.n.a T.notes.length t.n.cap] 31) := by rw [hw3, hn2]; exact blk_alloc (blk_alloc (blk_new _ _) _) _
  have x3 : w3.heap[n3]? = some (.cells #[.int .i64 wh] 3 (0, 0)) := by rw [hw3, hn3, hn2]; exact blk_alloc (blk_new' _ _ (by simp)) _
  have x4 : w3.heap[n4]? = some (.cells #[.slice none 0 0] 73 (0, 0)) := by rw [hw3, hn4, hn3, hn2]; exact blk_new' _ _ (by simp)
  have hE3 : Ext2 w w3 := by rw [hw3]; exact ext_trans (ext_trans (below_alloc' _ _) (below_alloc' _ _)) (below_alloc' _ _)
  have lw : w.heap.size ≤ n3 := by omega
  have l34 : n3 < n4 := by omega
  rw [← hn2, ← hn3, ← hn4]
  have HE3 := Lib.hid hE3; have X3 := Lib.hid x3; have X4 := Lib.hid x4
  clear hw3 hn2 hn3 hn4 hE3 x3 x4
  have q2c := cell_blk x2
  have q2f := frz_blk x2
  clear x2
  go_wp2_with (fail)
  (with_reducible refine (HL2.out _ HE3.out).mono ?_)
  rintro e w4 ⟨hE4, ⟨hne, rfl⟩ | ⟨h0, B, g, F, ns, rfl, hTab⟩⟩
  · have HE4 := Lib.hid (ext_trans HE3.out hE4)
    have x4 := Ext2.blk hE4 X4.out
    have hb : (E != 0) = true := by simpa using hne
    have HV : Hid (X = ([], E)) := Lib.hid (by rw [HX.out]; unfold findAns; rw [← HEE.out, if_pos hne])
    clear hne hE4 q2c q2f
    go_upto_region 2 with (fail)
    refine wp_name ?_
    intro w5 hw5
    have x4 : w5.heap[n4]? = some (.cells #[.slice none 0 0] 73 (0, 0)) := by rw [hw5]; exact blk_alloc x4 _
    have HE5 := Lib.hid (show Ext2 w w5 by rw [hw5]; exact ext_trans HE4.out (below_alloc' _ _))
    clear hw5
    have q4c := cell_blk x4
    have q4f := frz_blk x4
    go_wp2_with (fail)
    have r1 : (w5.setCell ⟨n4, 0, none⟩ (.slice none 0 0)).heap[n4]? = some (.cells #[.slice none 0 0] 73 (0, 0)) := Eq.trans (blk_set x4 0 _) rfl
    have zc := cell_blk r1
    have zf := frz_blk r1
    exact leaves_nil (v := .tuple #[.slice none 0 0, .int .i64 E]) (by simp [results, Tryz.results19, go_sem, zc]) (fnd_none HV.out (below_set HE5.out (by omega)))
  have HE4 := Lib.hid (ext_trans HE3.out hE4)
  have x4 := Ext2.blk hE4 X4.out
  have x3 := Ext2.blk hE4 X3.out
  have hfr := hTab.fr
  have hF : T.reel.frames.toNat = F := by rw [hfr]; omega
  have hP := task_p (T := T) (by rw [← HEE.out]; exact h0)
  rw [hF] at hP
  have hXe : X = if inB wh 0 399999 = false then ([], 7) else if okT T = false then ([], 9) else (findV N F (grpsT T).1 wh, 0) := by
    rw [HX.out]; unfold findAns; rw [← HEE.out, if_neg (by rw [h0]; simp), hF, ← HNN.out]
  have HXE := Lib.hid hXe; have HTB := Lib.hid hTab; have HP := Lib.hid hP; have HF := Lib.hid hF
  have hle := hP.F1
  subst h0
  clear hE4 hTab hF hP hXe hfr q2c q2f
  go_upto_region 2 with (fail)
  refine wp_name ?_
  intro w5 hw5
  obtain ⟨n6, hn6⟩ : ∃ n, n = w4.heap.size := ⟨_, rfl⟩
  have x6 : w5.heap[n6]? = some (.cells #[.pointer (some ⟨B, 0, none⟩)] 84 (0, 0)) := by rw [hw5, hn6]; exact blk_new _ _
  have hE5' : Ext2 w4 w5 := by rw [hw5]; exact below_alloc' _ _
  have l46 : n4 < n6 := by rw [hn6]; exact blk_lt x4
  have x4 := hE5'.blk x4; have x3 := hE5'.blk x3
  have HE5 := Lib.hid (ext_trans HE4.out hE5')
  have HTB5 := Lib.hid (HTB.out.below hE5')
  have X3 := Lib.hid x3; have X4 := Lib.hid x4; have X6 := Lib.hid x6
  rw [← hn6]
  clear hw5 hn6 hE5'
  have q3c := cell_blk x3
  have q3f := frz_blk x3
  have q4c := cell_blk x4
  have q4f := frz_blk x4
  have q6c := cell_blk x6
  have q6f := frz_blk x6
  clear x3 x6
  obtain ⟨v1, hv1⟩ : ∃ v, v = inB wh 0 399999 := ⟨_, rfl⟩
  have HV1 := Lib.hid hv1
  have HO : Hid (∀ W, Calls Tryz.prog 30 #[.int .i64 wh, .int .i64 0, .int .i64 399999] W fun e w' => e = .returned (.bool (!v1)) ∧ W = w') := Lib.hid fun W => by rw [hv1, ← outB_in]; exact out_any _ _ _ W
  clear hv1
  cases v1 with
  | false =>
    have HV : Hid (X = ([], 7)) := Lib.hid (by rw [HXE.out, if_pos HV1.out.symm])
    go_wp2_with (fail)
    (with_reducible refine (HO.out _).mono ?_)
    rintro e w' ⟨rfl, rfl⟩
    go_wp2_with (fail)
    have r1 : (w5.setCell ⟨n4, 0, none⟩ (.slice none 0 0)).heap[n4]? = some (.cells #[.slice none 0 0] 73 (0, 0)) := Eq.trans (blk_set x4 0 _) rfl
    have zc := cell_blk r1
    have zf := frz_blk r1
    exact leaves_nil (v := .tuple #[.slice none 0 0, .int .i64 7]) (by simp [results, Tryz.results19, go_sem, zc]) (fnd_none HV.out (below_set HE5.out (by omega)))
  | true =>
  have hwb := inB_iff.1 HV1.out.symm
  go_wp2_with (fail)
  (with_reducible refine (HO.out _).mono ?_)
  rintro e w' ⟨rfl, rfl⟩
  have hnar := narrow_any HTB5.out
  have eg : (gapsN F N) = gapsT T := by unfold gapsT; rw [HF.out, ← HNN.out]
  have er : grpsV (footV T.reel.gauge) F N (gapsT T).1 T.reel.marks T.whole = grpsT T := by unfold grpsT; rw [HF.out, ← HNN.out]
  rw [eg, er] at hnar
  unfold NarOut at hnar
  obtain ⟨al, hal⟩ : ∃ a, a = (grpsT T).1 := ⟨_, rfl⟩
  obtain ⟨ok, hok⟩ : ∃ b, b = al.all grpOk := ⟨_, rfl⟩
  rw [← hal, ← hok] at hnar
  have hal61 : al.length ≤ 61 := by
    have hm : MarksIn F T.reel.marks := ⟨HP.out.ok.reel.nm, fun i hi => by have := HP.out.ok.reel.mark i hi; rw [HP.out.fr] at this; exact this, HP.out.ok.reel.up⟩
    have hinv := grpsK_inv (foot := footV T.reel.gauge) (l := N) (gs := (gapsT T).1) (frames := F) hm (by rcases foot_cases T.reel.gauge with h | h | h | h <;> omega) hle.2 T.reel.marks.length (Nat.le_refl _)
    rw [hal, ← er, grpsV_eq]
    have h1 := hinv.nall; have h3 := hm.n
    simp only [List.length_append, List.length_singleton]; omega
  have HXF : Hid (X = if ok = false then ([], 9) else (findV N F al wh, 0)) := Lib.hid (by rw [HXE.out, ← HV1.out, if_neg (by simp), hok, hal]; rfl)
  obtain ⟨na, hna⟩ : ∃ n, n = al.length := ⟨_, rfl⟩
  rw [← hna] at hnar hal61
  have HNA := Lib.hid hna; have HNR := Lib.hid hnar
  clear hnar eg er hal hok hna HO
  go_wp2_with (fail)
  refine HNR.out.mono ?_
  rintro e w6 ⟨⟨⟨ala, alc⟩, ⟨ska, skc⟩, ⟨wra, wrc⟩, hs, rfl, hgr, -, -⟩, hE6⟩
  have x4 := Ext2.blk hE6 X4.out; have x3 := Ext2.blk hE6 X3.out; have x6 := Ext2.blk hE6 X6.out
  have HE6 := Lib.hid (ext_trans HE5.out hE6); have HGS := Lib.hid hgr
  have HTB6 := Lib.hid (HTB5.out.below hE6)
  clear hgr hE6 q3c q3f q4c q4f q6c q6f HNR
  go_upto_region 7 with (fail)
  refine wp_name ?_
  intro w7 hw7
  obtain ⟨n7, hn7⟩ : ∃ n, n = w6.heap.size := ⟨_, rfl⟩
  have x7 : w7.heap[n7]? = some (.cells #[.slice ala na alc] 87 (0, 0)) := by rw [hw7, hn7]; exact blk_new _ _
  have hE7 : Ext2 w6 w7 := by rw [hw7]; exact below_alloc' _ _
  have l67 : n6 < n7 := by rw [hn7]; exact blk_lt x6
  have x4 := hE7.blk x4; have x3 := hE7.blk x3; have x6 := hE7.blk x6
  have HE7 := Lib.hid (ext_trans HE6.out hE7)
  have HTB7 := Lib.hid (HTB6.out.below hE7); have HGS7 := Lib.hid (HGS.out.below hE7)
  have X3 := Lib.hid x3; have X4 := Lib.hid x4; have X6 := Lib.hid x6; have X7 := Lib.hid x7
  rw [← hn7]
  clear hw7 hn7 hE7
  have q4c := cell_blk x4
  have q4f := frz_blk x4
  have q6c := cell_blk x6
  have q6f := frz_blk x6
  clear x3 x6 x7
  cases ok with
  | false =>
    have HV : Hid (X = ([], 9)) := Lib.hid (by rw [HXF.out, if_pos rfl])
    go_wp2_with (fail)
    have r1 : (w7.setCell ⟨n4, 0, none⟩ (.slice none 0 0)).heap[n4]? = some (.cells #[.slice none 0 0] 73 (0, 0)) := Eq.trans (blk_set x4 0 _) rfl
    have zc := cell_blk r1
    have zf := frz_blk r1
    exact leaves_nil (v := .tuple #[.slice none 0 0, .int .i64 9]) (by simp [results, Tryz.results19, go_sem, zc]) (fnd_none HV.out (below_set HE7.out (by omega)))
  | true =>
  have HV : Hid (X = (findV N F al wh, 0)) := Lib.hid (by rw [HXF.out, if_neg (by simp)])
  clear x4
  go_wp2_with (fail)
  refine (pieces_any _ _).mono ?_
  rintro e w9 ⟨rfl, hw9⟩
  obtain ⟨bx, hbx⟩ : ∃ n, n = w7.heap.size := ⟨_, rfl⟩
  have y5 : w9.heap[bx]? = some (.cells #[.pointer (some ⟨B, 0, none⟩)] 84 (0, 0)) := by rw [hw9, hbx]; exact blk_new _ _
  have hE9' : Ext2 w7 w9 := by rw [hw9]; exact below_alloc' _ _
  have l7b : n7 < bx := by rw [hbx]; exact blk_lt X7.out
  have hE9 := ext_trans HE7.out hE9'
  have lb9 : bx < w9.heap.size := blk_lt y5
  have hK : FdK ⟨n3, n4, n6, n7, bx, w9.heap.size, T, t, N, ns, B, g, F, ⟨ala, alc⟩, hs, al, wh⟩ w w9 := ⟨hE9, hE9'.blk X3.out, hE9'.blk X6.out, by have h := hE9'.blk X7.out; rw [HNA.out] at h; exact h, ⟨y5, HTB7.out.below hE9'⟩, HGS7.out.below hE9'⟩
  have hN0 : FdN ⟨n3, n4, n6, n7, bx, w9.heap.size, T, t, N, ns, B, g, F, ⟨ala, alc⟩, hs, al, wh⟩ w w9 := ⟨lw, l34, l46, l67, l7b, lb9, rfl, hK, ⟨_, hE9'.blk X4.out⟩⟩
  have HN0 := Lib.hid hN0
  have X4 := Lib.hid (hE9'.blk X4.out)
  have hlw9 : w.heap.size ≤ w9.heap.size := hE9.size
  rw [← hbx]
  clear q4c q4f q6c q6f hw9 hbx y5 hE9' hE9 hK hN0
  go_wp2_with (fail)
  refine wp_aname ?_
  intro a0 ha0
  refine sb_out (gf := 61) (lb := #[.pointer (some ⟨bx, 0, none⟩)]) (by rw [ha0]; rfl) (enters_of Tryz.func61 (by kernel_rfl) rfl) (pieces_iter (T := T) (t := t) (N := N) (ns := ns) (B := B) (g := g) (F := F) (bx := bx) (A := w.heap.size)) (ts := fdT n4 w9.heap.size)
    (fun C W1 W2 h1 h2 => PicAt.kp HN0.out h1 (Kp.bw h2 fun b e hb hn ht => by unfold fdT at ht; dsimp only at hb hn; omega)) (fun C q _ hq hC => by unfold fdT; omega) (fun _ => rfl)
    (FdI ⟨n3, n4, n6, n7, bx, w9.heap.size, T, t, N, ns, B, g, F, ⟨ala, alc⟩, hs, al, wh⟩ w)
    (fun C k a' W => ∃ b5, W.heap[b5]? = some (Obj.cells #[.int .i64 (pcD (pieceK N F) k).from_, .int .i64 (pcD (pieceK N F) k).until_, .bool (pcD (pieceK N F) k).leader] 112) ∧ C ≤ b5 ∧ FdI ⟨n3, n4, n6, n7, bx, w9.heap.size, T, t, N, ns, B, g, F, ⟨ala, alc⟩, hs, al, wh⟩ w C k W ∧ a' = { tmps := (a0.tmps.setIfInBounds 39 (.agg #[.int .i64 (pcD (pieceK N F) k).from_, .int .i64 (pcD (pieceK N F) k).until_, .bool (pcD (pieceK N F) k).leader])).setIfInBounds 11 (.pointer (some ⟨b5, 0, none⟩)), defers := [] })
    (fun cd C k W => False) ?hI ?hJ ?hX ?hBB ?hp0 ?h0 ?assign ?body ?done ?stop
  case hI => exact fun C k W W' hs hd => FdI.sb HN0.out hs hd
  case hJ =>
    rintro C k a' W W' ⟨b5, h1, h2, h3, h4⟩ hd
    exact ⟨b5, hd.keep _ _ _ _ h2 h1, h2, FdI.sb HN0.out h3 hd, h4⟩
  case hX => exact fun _ _ _ _ _ h _ => h.elim
  case hBB => omega
  case hp0 => exact fun W hW => HN0.out.k.pic.below hW
  case h0 => exact fun W hW => ⟨HN0.out.k.ext HN0.out hW, Nat.le_refl _, _, hW.blk X4.out, own_nil _ _ _ _ _⟩
  case assign =>
    rintro l9 C k W hk hCl hCW hi
    subst ha0
    gi_wp2
    have hsz := hi.kk.bel.size
    exact ⟨Bw.ext (below_alloc' _ _) hsz, W.heap.size, blk_new _ _, hCW, hi.ext HN0.out (below_alloc' _ _), by simp only [List.setIfInBounds_toArray, List.set_cons_succ, List.set_cons_zero]⟩
  case body =>
    rintro l9 C k a' W hl9 hlC hr hk hCl hCW ⟨b5, x5, h5, hI, rfl⟩
    subst ha0
    simp only [List.setIfInBounds_toArray, List.set_cons_succ, List.set_cons_zero]
    have hfs := fndK_succ (N := N) (F := F) (al := al) (wh := wh) hk
    have hkl := fndK_len (N := N) (F := F) (al := al) (wh := wh) (k := k) (by omega)
    have hpl := pieceK_len N F
    have hpm := (pieceK_inv N F).chain.mem (pcD (pieceK N F) k) (by unfold pcD; rw [List.getD_eq_getElem?_getD, List.getElem?_eq_getElem hk]; exact List.getElem_mem hk)
    obtain ⟨p, hp⟩ : ∃ p, p = pcD (pieceK N F) k := ⟨_, rfl⟩
    rw [← hp] at x5 hfs hpm ⊢
    obtain ⟨K, hK⟩ : ∃ K, K = fndK N F al wh k := ⟨_, rfl⟩
    obtain ⟨hkk, hsz, v, x4, hO⟩ := hI
    dsimp only at x4 hO
    rw [← hK] at hfs hkl hO
    obtain ⟨⟨sa, sc⟩, rfl, hsr⟩ := OwnR.sl hO
    have hsc := hsr.le; have hsm := hsr.max
    obtain ⟨pf, pu, pl⟩ := p
    dsimp only at x5 hpm hsc hsm x4 hO
    obtain ⟨n, hn⟩ : ∃ n, n = K.length := ⟨_, rfl⟩
    rw [← hn] at hsc hkl hO x4
    have HKK := Lib.hid hkk; have HO := Lib.hid hO; have HN := Lib.hid hn; have HK := Lib.hid hK; have X4 := Lib.hid x4; have X5 := Lib.hid x5; have HFS := Lib.hid hfs; have HSZ := Lib.hid hsz
    have hn2 : n ≤ 200000 := by omega
    clear hkk hO hn hK hsr hfs hp hkl hsz x4
    have q5c := cell_blk x5
    have q5f := frz_blk x5
    clear x5
    cases pl with
    | true =>
      have HF : Hid (fndK N F al wh (k + 1) = K) := Lib.hid (by rw [HFS.out]; rfl)
      gi_wp2
      refine ⟨Bw.refl _ _ _, HKK.out, HSZ.out, _, X4.out, ?_⟩
      dsimp only
      rw [HF.out, ← HN.out]; exact HO.out
    | false =>
    obtain ⟨f, hf⟩ : ∃ f : Nat, pf = f := ⟨_, (Int.toNat_of_nonneg hpm.1).symm⟩
    subst hf
    have x3 := HKK.out.b3; have x6 := HKK.out.b6; have x7 := HKK.out.b7
    dsimp only at x3 x6 x7
    rw [← HNA.out] at x7
    have hpa := place_any (f := f) HKK.out.pic.tab HKK.out.grp (by show f ≤ F; omega) (by show al.length ≤ 100; rw [← HNA.out]; omega)
    have hpi := place_in (N := N) (al := al) (fun g hg => by
      obtain ⟨i, hi, rfl⟩ := List.mem_iff_getElem.1 hg
      have h := HKK.out.grp.ok i hi
      unfold grD at h
      rwa [List.getD_eq_getElem?_getD, List.getElem?_eq_getElem hi] at h) (by rw [← HNA.out]; omega) (f := f) (by omega)
    dsimp only at hpa
    rw [← HNA.out] at hpa
    obtain ⟨R, hR⟩ : ∃ R, R = placeG N al f := ⟨_, rfl⟩
    rw [← hR] at hpa hpi
    have hfs : fndK N F al wh (k + 1) = if (comS ⟨f, pu⟩ ⟨f + wh - R.hi, f + wh - R.lo⟩).hi < (comS ⟨f, pu⟩ ⟨f + wh - R.hi, f + wh - R.lo⟩).lo then K else if 0 < K.length ∧ (spD K (K.length - 1)).hi = (comS ⟨f, pu⟩ ⟨f + wh - R.hi, f + wh - R.lo⟩).lo - 1 then K.set (K.length - 1) { spD K (K.length - 1) with hi := (comS ⟨f, pu⟩ ⟨f + wh - R.hi, f + wh - R.lo⟩).hi } else K ++ [comS ⟨f, pu⟩ ⟨f + wh - R.hi, f + wh - R.lo⟩] := by
      rw [HFS.out, hR]; rfl
    have HCM := Lib.hid fun W => common_any ⟨f, pu⟩ ⟨f + wh - R.hi, f + wh - R.lo⟩ W
    have hcb : (comS ⟨(f : Int), pu⟩ ⟨f + wh - R.hi, f + wh - R.lo⟩).lo ≤ 30000000000000 ∧ -30000000000000 ≤ (comS ⟨(f : Int), pu⟩ ⟨f + wh - R.hi, f + wh - R.lo⟩).lo := by unfold comS; dsimp only; omega
    obtain ⟨S, hS⟩ : ∃ S, S = comS ⟨f, pu⟩ ⟨f + wh - R.hi, f + wh - R.lo⟩ := ⟨_, rfl⟩
    rw [← hS] at hfs HCM hcb
    rw [← HN.out] at hfs
    have HPA := Lib.hid hpa; have HF := Lib.hid hfs
    have u1 : IntKind.i64.wrap ((f : Int) + wh) = (f : Int) + wh := IntWalk.i64_in _ (by omega)
    have u2 : IntKind.i64.wrap ((f : Int) + wh - R.hi) = (f : Int) + wh - R.hi := IntWalk.i64_in _ (by omega)
    have u3 : IntKind.i64.wrap ((f : Int) + wh - R.lo) = (f : Int) + wh - R.lo := IntWalk.i64_in _ (by omega)
    have u4 : IntKind.i64.wrap ((n : Int) - 1) = (n : Int) - 1 := IntWalk.i64_in _ (by omega)
    have u5 : IntKind.i64.wrap (S.lo - 1) = S.lo - 1 := IntWalk.i64_in _ (by omega)
    clear hpa hfs hR hS hpi hcb HFS
    dsimp only at HCM
    have q3c := cell_blk x3
    have q3f := frz_blk x3
    have q6c := cell_blk x6
    have q6f := frz_blk x6
    have q7c := cell_blk x7
    have q7f := frz_blk x7
    clear x3 x6 x7
    gi_wp2
    (refine ⟨trivial, rfl, CallsIn.mono (CallsIn.inRound _ (callsIn_wide.2 (HPA.out))) ?_⟩)
    rintro e W6 ⟨rfl, hE6⟩
    have x5 := Ext2.blk hE6 X5.out
    have HKK6 := Lib.hid (HKK.out.ext HN0.out hE6)
    have x3 := HKK6.out.b3
    dsimp only at x3
    have HE6 := Lib.hid hE6
    have X56 := Lib.hid x5; have X36 := Lib.hid x3
    have X46 := Lib.hid (Ext2.blk hE6 X4.out); have HO6 := Lib.hid (HO.out.below hE6)
    clear q3c q3f q5c q5f q6c q6f q7c q7f hE6
    have q3c := cell_blk x3
    have q3f := frz_blk x3
    have q5c := cell_blk x5
    have q5f := frz_blk x5
    clear x3 x5
    have lx3 := blk_lt X36.out; have lx5 := blk_lt X56.out
    gi_wp2
    (refine ⟨trivial, rfl, CallsIn.mono (CallsIn.inRound _ (callsIn_wide.2 (HCM.out _))) ?_⟩)
    rintro e W8 ⟨rfl, hE8⟩
    have hE8' : Ext2 W6 W8 := ext_trans (below_alloc' _ _) hE8
    have x4 := Ext2.blk hE8' X46.out
    have HKK8 := Lib.hid (HKK6.out.ext HN0.out hE8')
    have HO8 := Lib.hid (HO6.out.below hE8')
    have HE8 := Lib.hid (ext_trans HE6.out hE8')
    have X48 := Lib.hid x4
    have lx4 := blk_lt x4
    clear q3c q3f q5c q5f lx3 lx5 hE8 hE8'
    have q4c := cell_blk x4
    have q4f := frz_blk x4
    by_cases hs : S.lo ≤ S.hi
    · have d1 : decide (S.lo ≤ S.hi) = true := decide_eq_true hs
      have HFx : Hid (fndK N F al wh (k + 1) = if 0 < n ∧ (spD K (n - 1)).hi = S.lo - 1 then K.set (n - 1) { spD K (n - 1) with hi := S.hi } else K ++ [S]) := Lib.hid (by rw [HF.out, if_neg (by omega)])
      clear hs
      by_cases hn0 : n = 0
      · have HF2 : Hid (fndK N F al wh (k + 1) = K ++ [S]) := Lib.hid (by rw [HFx.out, if_neg (by omega)])
        replace u4 : IntKind.i64.wrap ((n : Int) - 1) = -1 := by rw [u4, hn0]; rfl
        clear hn0
        gi_wp2
        refine wpIn_name ?_
        intro W9 hw9
        obtain ⟨n13, hn13⟩ : ∃ n, n = W8.heap.size := ⟨_, rfl⟩
        have x13 : W9.heap[n13]? = some (Obj.cells #[.int .i64 S.lo, .int .i64 S.hi] 23) := by rw [hw9, hn13]; exact blk_new _ _
        have hE9 : Ext2 W8 W9 := by rw [hw9]; exact below_alloc' _ _
        have x4 := hE9.blk x4
        have HO9 := Lib.hid (HO8.out.below hE9)
        have HE9 := Lib.hid (ext_trans HE8.out hE9)
        have HKK9 := Lib.hid (HKK8.out.ext HN0.out hE9)
        have HZ9 := Lib.hid (Nat.le_trans HSZ.out HE9.out.size)
        have l413 : n4 < n13 := by rw [hn13]; exact lx4
        rw [← hn13]
        have X139 := Lib.hid x13; have X49 := Lib.hid x4
        clear hw9 hn13 hE9 lx4 HO8 HE8 HKK8 X48 HCM HPA HF q4c q4f
        have q4c := cell_blk x4
        have q4f := frz_blk x4
        have q13c := cell_blk x13
        have q13f := frz_blk x13
        clear x4 x13
        refine round_region_ev [] [0, 1, 2, 3, 4, 5, 6, 7, 8, 9, 10, 11, 12, 13] [] [] (by kernel_rfl) (by rintro ⟨a_, w_, h_⟩; exact h_) (by kernel_rfl) (by kernel_rfl) (by intro c a d v w h; cases d <;> exact h) ?_
        simp only [picks, List.drop_succ_cons, List.drop_zero]
        repeat (refine wpQ0_step (fun K hK => ?_); go_simp; (refine hK _ ?_; clear hK K))
        refine wpQ0_nil ?_
        repeat ((with_reducible refine wpQ2_step (fun K hK => ?_)); go_simp; first | ((with_reducible refine hK _ ?_); clear hK K) | (apply Exists.intro; refine ⟨fun x => ?_, hK _ ?_⟩; (fail); clear hK K) | (refine ite_undef (fun h => (by have h_ : (none : Option Bool) = some _ := h; cases h_)) ?_; (with_reducible refine hK _ ?_); clear hK K))
        (with_reducible refine wpQ2_nil ?_)
        refine Events.none_ fun W10 hg10 => ?_
        simp only [picks, List.drop_succ_cons, List.drop_zero]
        have x4 := hg10.blk X49.out; have x13 := hg10.blk X139.out
        have HO10 := Lib.hid (HO9.out.below hg10); have HE10 := Lib.hid (ext_trans HE9.out hg10); have HKK10 := Lib.hid (HKK9.out.ext HN0.out hg10); have HZ10 := Lib.hid (Nat.le_trans HZ9.out hg10.size); have X410 := Lib.hid x4
        clear q4c q4f q13c q13f hg10 HO9 HE9 HKK9 HZ9 X49 X139
        have q4c := cell_blk x4
        have q4f := frz_blk x4
        have q13c := cell_blk x13
        have q13f := frz_blk x13
        clear x4 x13
        go_wp2_with (fail)
        repeat (first | (refine round_region_list (by kernel_rfl) (by rintro ⟨a_, w_, h_⟩; exact h_) ?_) | go_values | gi_guarded | gi_step)
        go_wp2_with (at_builtin; refine app_one_at [.int .i64 S.lo, .int .i64 S.hi] elSpan rfl _ _ rfl C rfl (HO10.out.below (below_alloc' _ _)) W10.heap.size 1 rfl (blk_new _ _) (by simp [Value.oneCell']) (by omega) (by have := HZ10.out; simp; omega) ?_; intro v' w7 hO7 hg7 hpl; (obtain ⟨g7, cp7, hv7, hge7, -, -, -, -⟩ := own_some hO7 (by omega)); subst hv7; (have x47 := app_blk HO10.out hg7 X410.out (by decide)); (have q47c := cell_blk x47); (have q47f := frz_blk x47))
        have hgo := own_ge HO10.out
        have hb0 := below_alloc' W10 (.cells #[.int .i64 S.lo, .int .i64 S.hi] 23 (0, 0))
        have hkx := HKK10.out.ext HN0.out hb0
        have hk7 := hkx.kp HN0.out (Kp.below (b0 := n4) (show Below w9.heap.size _ w7 from ⟨hg7.os, hg7.tape, hg7.output, hg7.size, fun q hq => hg7.block q (by have := hb0.size; have := HZ10.out; omega) (fun he => by have := hgo q he.symm; omega)⟩)) ⟨hg7.os, hg7.tape, hg7.output, hg7.size, fun q hq => hg7.block q (by have := hb0.size; have := HZ10.out; omega) (fun he => by have := hgo q he.symm; omega)⟩
        have hbx : Bx n4 w7 (w7.setCell ⟨n4, 0, none⟩ (.slice (some ⟨g7, 0, none⟩) (n + 1) cp7)) := Bx.set _
        have hbw : Bw w.heap.size (fdT n4 w9.heap.size C) W w7 := (Bw.ext (ext_trans HE10.out hb0) HKK.out.bel.size).trans (Bw.grown hg7 (by have := hb0.size; have := HZ10.out; omega) fun q hq => ⟨by have := hgo q hq; omega, by obtain ⟨cur, h1⟩ := ownR_cells (HO10.out.below hb0) hq; exact ⟨cur, _, _, h1, .inr (by have := hgo q hq; omega)⟩⟩)
        refine ⟨hbw.trans (Bw.set x47 (.inl rfl) (by omega) _), hk7.kp HN0.out (Kp.bx hbx) (hbx.below (by omega) hk7.bel.size), ?_, _, Eq.trans (blk_set x47 0 _) rfl, ?_⟩
        · rw [World.size_setCell]; exact Nat.le_trans HZ10.out (Nat.le_trans hb0.size hg7.size)
        · dsimp only
          rw [HF2.out, List.length_append, List.length_singleton, ← HN.out]
          refine OwnR.congr (hO7.bx hbx (fun hc => by have := own_ge hO7 n4 hc; omega)) fun i j hi hj => ?_
          rw [HN.out]
          exact spC_snoc (by rw [← HN.out]; exact hi) hj
      · obtain ⟨q, hq⟩ : ∃ q : Nat, (q : Int) = (n : Int) - 1 := ⟨n - 1, by omega⟩
        have hqn : q = n - 1 := by omega
        replace u4 : IntKind.i64.wrap ((n : Int) - 1) = (q : Int) := by rw [u4, hq]
        obtain ⟨g2, cp2, hv2, hge2, -, -, -, -⟩ := own_some HO8.out (by omega)
        cases hv2
        have e1 : (q : Int) ≥ 0 := by omega
        have e2 : decide ((q : Int) ≥ 0) = true := decide_eq_true e1
        have e3 : (q : Int) < (n : Int) := by omega
        have e4 : (0 : Int) ≤ (q : Int) := by omega
        have e5 : decide ((0 : Int) ≤ (q : Int)) = true := decide_eq_true e4
        have e6 : decide ((q : Int) < (n : Int)) = true := decide_eq_true e3
        have lq : q < n := by omega
        have HQ := Lib.hid hqn
        clear hn0 hq hqn
        gi_wp2
        refine wpIn_name ?_
        intro W9 hw9
        obtain ⟨n13, hn13⟩ : ∃ n, n = W8.heap.size := ⟨_, rfl⟩
        have x13 : W9.heap[n13]? = some (Obj.cells #[.int .i64 S.lo, .int .i64 S.hi] 23) := by rw [hw9, hn13]; exact blk_new _ _
        have hE9 : Ext2 W8 W9 := by rw [hw9]; exact below_alloc' _ _
        have x4 := hE9.blk x4
        have HO9 := Lib.hid (HO8.out.below hE9)
        have HE9 := Lib.hid (ext_trans HE8.out hE9)
        have HKK9 := Lib.hid (HKK8.out.ext HN0.out hE9)
        have HZ9 := Lib.hid (Nat.le_trans HSZ.out HE9.out.size)
        have l413 : n4 < n13 := by rw [hn13]; exact lx4
        rw [← hn13]
        have X139 := Lib.hid x13; have X49 := Lib.hid x4
        clear hw9 hn13 hE9 lx4 HO8 HE8 HKK8 X48 HCM HPA HF q4c q4f
        have q4c := cell_blk x4
        have q4f := frz_blk x4
        have q13c := cell_blk x13
        have q13f := frz_blk x13
        clear x4 x13
        have hcell := own_cells HO9.out lq
        obtain ⟨c0, c1, f1⟩ := hcell
        have hfx := HFx.out
        rw [← HQ.out] at hfx
        obtain ⟨z, hz⟩ : ∃ z, z = spD K q := ⟨_, rfl⟩
        rw [← hz] at c0 c1 hfx
        have HZZ := Lib.hid hz
        by_cases he : z.hi = S.lo - 1
        · have HF2 : Hid (fndK N F al wh (k + 1) = K.set q ⟨z.lo, S.hi⟩) := Lib.hid (by rw [hfx, if_pos ⟨by omega, he⟩])
          have b1 : (z.hi == S.lo - 1) = true := by simpa using he
          clear hfx hz he
          refine round_region_ev [] [0, 1, 2, 3, 4, 5, 6, 7, 8, 9, 10, 11, 12, 13] [] [] (by kernel_rfl) (by rintro ⟨a_, w_, h_⟩; exact h_) (by kernel_rfl) (by kernel_rfl) (by intro c a d v w h; cases d <;> exact h) ?_
          simp only [picks, List.drop_succ_cons, List.drop_zero]
          repeat (refine wpQ0_step (fun K hK => ?_); go_simp; (refine hK _ ?_; clear hK K))
          refine wpQ0_nil ?_
          repeat ((with_reducible refine wpQ2_step (fun K hK => ?_)); go_simp; first | ((with_reducible refine hK _ ?_); clear hK K) | (apply Exists.intro; refine ⟨fun x => ?_, hK _ ?_⟩; (fail); clear hK K) | (refine ite_undef (fun h => (by have h_ : (none : Option Bool) = some _ := h; cases h_)) ?_; (with_reducible refine hK _ ?_); clear hK K))
          (with_reducible refine wpQ2_nil ?_)
          refine Events.none_ fun W10 hg10 => ?_
          simp only [picks, List.drop_succ_cons, List.drop_zero]
          have x4 := hg10.blk X49.out; have x13 := hg10.blk X139.out
          have c0 := ext_cell' hg10 c0; have c1 := ext_cell' hg10 c1; have f1 := (own_cells (HO9.out.below hg10) lq).2.2; have HO10 := Lib.hid (HO9.out.below hg10); have HE10 := Lib.hid (ext_trans HE9.out hg10); have HKK10 := Lib.hid (HKK9.out.ext HN0.out hg10); have HZ10 := Lib.hid (Nat.le_trans HZ9.out hg10.size); have X410 := Lib.hid x4
          clear q4c q4f q13c q13f hg10 HO9 HE9 HKK9 HZ9 X49 X139
          have q4c := cell_blk x4
          have q4f := frz_blk x4
          have q13c := cell_blk x13
          have q13f := frz_blk x13
          clear x4 x13
          go_wp2_with (fail)
          repeat (first | (refine round_region_list (by kernel_rfl) (by rintro ⟨a_, w_, h_⟩; exact h_) ?_) | go_values | gi_guarded | gi_step)
          go_wp2_with (fail)
          have hg2 : C ≤ g2 := own_ge HO10.out g2 rfl
          have hb2 : Below w9.heap.size W10 (W10.setCell ⟨g2, q * 2 + 1, none⟩ (.int .i64 S.hi)) := below_set (Below.refl _ _) (by omega)
          obtain ⟨cur, h1⟩ := ownR_cells HO10.out (k := g2) rfl
          refine ⟨(Bw.ext HE10.out HKK.out.bel.size).trans (Bw.set h1 (.inr (by omega)) (by omega) _), HKK10.out.kp HN0.out (Kp.below hb2) (hb2.mono (by omega)), ?_, _, blk_set_ne X410.out (show g2 ≠ n4 by omega), ?_⟩
          · rw [World.size_setCell]; exact HZ10.out
          · dsimp only
            rw [HF2.out, List.length_set, ← HN.out]
            have h2 := HO10.out.set (i := q) (j := 1) lq (by omega) (.int .i64 S.hi)
            refine OwnR.congr h2 fun i j hi hj => ?_
            have e : spD (K.set q ⟨z.lo, S.hi⟩) i = if i = q then ⟨z.lo, S.hi⟩ else spD K i := by
              unfold spD
              rw [List.getD_eq_getElem?_getD, List.getD_eq_getElem?_getD, List.getElem?_set]
              by_cases hiq : i = q
              · subst hiq; rw [if_pos rfl, if_pos (by rw [← HN.out]; exact hi), if_pos rfl]; rfl
              · rw [if_neg (Ne.symm hiq), if_neg hiq]
            by_cases hiq : i = q
            · subst hiq
              rw [if_pos rfl] at e
              rcases (by omega : j = 0 ∨ j = 1) with rfl | rfl
              · simp only [spC, e]; rw [if_neg (by omega)]; rw [HZZ.out]
              · simp only [spC, e]; rw [if_pos (by simp)]
            · rw [if_neg hiq] at e
              rw [if_neg (fun h => hiq h.1)]
              simp only [spC, e]
        · have HF2 : Hid (fndK N F al wh (k + 1) = K ++ [S]) := Lib.hid (by rw [hfx, if_neg (fun h => he h.2)])
          have b1 : (z.hi == S.lo - 1) = false := by simpa using he
          clear hfx hz he
          refine round_region_ev [] [0, 1, 2, 3, 4, 5, 6, 7, 8, 9, 10, 11, 12, 13] [] [] (by kernel_rfl) (by rintro ⟨a_, w_, h_⟩; exact h_) (by kernel_rfl) (by kernel_rfl) (by intro c a d v w h; cases d <;> exact h) ?_
          simp only [picks, List.drop_succ_cons, List.drop_zero]
          repeat (refine wpQ0_step (fun K hK => ?_); go_simp; (refine hK _ ?_; clear hK K))
          refine wpQ0_nil ?_
          repeat ((with_reducible refine wpQ2_step (fun K hK => ?_)); go_simp; first | ((with_reducible refine hK _ ?_); clear hK K) | (apply Exists.intro; refine ⟨fun x => ?_, hK _ ?_⟩; (fail); clear hK K) | (refine ite_undef (fun h => (by have h_ : (none : Option Bool) = some _ := h; cases h_)) ?_; (with_reducible refine hK _ ?_); clear hK K))
          (with_reducible refine wpQ2_nil ?_)
          refine Events.none_ fun W10 hg10 => ?_
          simp only [picks, List.drop_succ_cons, List.drop_zero]
          have x4 := hg10.blk X49.out; have x13 := hg10.blk X139.out
          have HO10 := Lib.hid (HO9.out.below hg10); have HE10 := Lib.hid (ext_trans HE9.out hg10); have HKK10 := Lib.hid (HKK9.out.ext HN0.out hg10); have HZ10 := Lib.hid (Nat.le_trans HZ9.out hg10.size); have X410 := Lib.hid x4
          clear c0 c1 f1 q4c q4f q13c q13f hg10 HO9 HE9 HKK9 HZ9 X49 X139
          have q4c := cell_blk x4
          have q4f := frz_blk x4
          have q13c := cell_blk x13
          have q13f := frz_blk x13
          clear x4 x13
          go_wp2_with (fail)
          repeat (first | (refine round_region_list (by kernel_rfl) (by rintro ⟨a_, w_, h_⟩; exact h_) ?_) | go_values | gi_guarded | gi_step)
          go_wp2_with (at_builtin; refine app_one_at [.int .i64 S.lo, .int .i64 S.hi] elSpan rfl _ _ rfl C rfl (HO10.out.below (below_alloc' _ _)) W10.heap.size 1 rfl (blk_new _ _) (by simp [Value.oneCell']) (by omega) (by have := HZ10.out; simp; omega) ?_; intro v' w7 hO7 hg7 hpl; (obtain ⟨g7, cp7, hv7, hge7, -, -, -, -⟩ := own_some hO7 (by omega)); subst hv7; (have x47 := app_blk HO10.out hg7 X410.out (by decide)); (have q47c := cell_blk x47); (have q47f := frz_blk x47))
          have hgo := own_ge HO10.out
          have hb0 := below_alloc' W10 (.cells #[.int .i64 S.lo, .int .i64 S.hi] 23 (0, 0))
          have hkx := HKK10.out.ext HN0.out hb0
          have hk7 := hkx.kp HN0.out (Kp.below (b0 := n4) (show Below w9.heap.size _ w7 from ⟨hg7.os, hg7.tape, hg7.output, hg7.size, fun q hq => hg7.block q (by have := hb0.size; have := HZ10.out; omega) (fun he => by have := hgo q he.symm; omega)⟩)) ⟨hg7.os, hg7.tape, hg7.output, hg7.size, fun q hq => hg7.block q (by have := hb0.size; have := HZ10.out; omega) (fun he => by have := hgo q he.symm; omega)⟩
          have hbx : Bx n4 w7 (w7.setCell ⟨n4, 0, none⟩ (.slice (some ⟨g7, 0, none⟩) (n + 1) cp7)) := Bx.set _
          have hbw : Bw w.heap.size (fdT n4 w9.heap.size C) W w7 := (Bw.ext (ext_trans HE10.out hb0) HKK.out.bel.size).trans (Bw.grown hg7 (by have := hb0.size; have := HZ10.out; omega) fun q hq => ⟨by have := hgo q hq; omega, by obtain ⟨cur, h1⟩ := ownR_cells (HO10.out.below hb0) hq; exact ⟨cur, _, _, h1, .inr (by have := hgo q hq; omega)⟩⟩)
          refine ⟨hbw.trans (Bw.set x47 (.inl rfl) (by omega) _), hk7.kp HN0.out (Kp.bx hbx) (hbx.below (by omega) hk7.bel.size), ?_, _, Eq.trans (blk_set x47 0 _) rfl, ?_⟩
          · rw [World.size_setCell]; exact Nat.le_trans HZ10.out (Nat.le_trans hb0.size hg7.size)
          · dsimp only
            rw [HF2.out, List.length_append, List.length_singleton, ← HN.out]
            refine OwnR.congr (hO7.bx hbx (fun hc => by have := own_ge hO7 n4 hc; omega)) fun i j hi hj => ?_
            rw [HN.out]
            exact spC_snoc (by rw [← HN.out]; exact hi) hj
    · have d1 : decide (S.lo ≤ S.hi) = false := decide_eq_false hs
      have HFx : Hid (fndK N F al wh (k + 1) = K) := Lib.hid (by rw [HF.out, if_pos (by omega)])
      clear hs
      gi_wp2
      refine ⟨Bw.ext (ext_trans HE8.out (below_alloc' _ _)) HKK.out.bel.size, (HKK8.out.ext HN0.out (below_alloc' _ _)), ?_, _, blk_alloc X48.out _, ?_⟩
      · exact Nat.le_trans HSZ.out (ext_trans HE8.out (below_alloc' _ _)).size
      · dsimp only
        rw [HFx.out, ← HN.out]; exact HO8.out.below (below_alloc' _ _)
  case done =>
    rintro d C W hd hCl hI hD
    subst ha0
    obtain ⟨hkk, hsz, v, x4, hO⟩ := hI
    dsimp only at x4 hO
    have hfe : fndK N F al wh (pieceK N F).length = findV N F al wh := by unfold fndK findV; rw [List.take_length]
    rw [hfe] at hO
    obtain ⟨⟨sa, sc⟩, rfl, hsr⟩ := OwnR.sl hO
    obtain ⟨n, hn⟩ : ∃ n, n = (findV N F al wh).length := ⟨_, rfl⟩
    dsimp only at x4 hO
    rw [← hn] at x4
    have HKK := Lib.hid hkk; have HO := Lib.hid hO; have HN := Lib.hid hn; have HD := Lib.hid hD; have X4 := Lib.hid x4
    clear hkk hO hn hD hsr hfe hsz
    have q4c := cell_blk x4
    have q4f := frz_blk x4
    clear x4
    go_wp2_with (fail)
    refine leaveM_take (by simp) (blk_set_ne HD.out (by omega)) ?_
    have r1 := blk_put (d := d) (o := .deferred none) (show (W.setCell ⟨n4, 0, none⟩ (.slice sa n sc)).heap[n4]? = some (.cells #[.slice sa n sc] 73 (0, 0)) from Eq.trans (blk_set X4.out 0 _) rfl) (by omega)
    have zc := cell_blk r1
    have zf := frz_blk r1
    refine leaves_nil (v := .tuple #[.slice sa n sc, .int .i64 0]) (by simp [results, Tryz.results19, go_sem, zc]) ⟨⟨⟨sa, sc⟩, by rw [HV.out, HN.out], ?_⟩, below_put (below_set HKK.out.bel (by omega)) (by omega)⟩
    rw [HV.out]
    have hb : Bx n4 W (W.setCell ⟨n4, 0, none⟩ (.slice sa n sc)) := Bx.set _
    have hne := own_ge HO.out
    exact own_row (own_putD (HO.out.bx hb (fun hc => by have := hne n4 hc; omega)) (blk_set_ne HD.out (by omega)))
  case stop => exact fun _ _ _ _ _ _ _ _ h _ => h.elim
end Go.Proofs.YtapeakbngligaaaGreatDoor
