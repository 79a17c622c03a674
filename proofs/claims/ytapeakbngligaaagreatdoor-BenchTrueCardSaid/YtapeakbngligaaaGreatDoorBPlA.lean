/-
  Cuts, plain: After, Before, and how they turn each other back (BenchCuts, BenchTurned).
  Notes, plain: their order, which stand, and that a list in order is known by its members (BenchMerges, BenchOneList).
  Pieces, gaps, sums and places, plain: as the reference reckons them.
  The notes that stand, as the program finds them: the last one of each name, unless it is split.
  Reels, tasks and their checks, plain; what Merge returns.
  Sums of gaps, plain: what is true of the gaps is in what a group tells (BenchTrue), and narrower gaps tell narrower (BenchNarrow).
  Pieces and gaps, plain: how the list of pieces grows; where gaps are.
  Groups of gaps, plain: what they are made of, and bounds.
-/
import Derived.Test.YtapeakbngligaaaGreatDoorBNmA
namespace Go.Proofs.YtapeakbngligaaaGreatDoor.D
structure Cut where
  from_ : Int
  until_ : Int
  deriving Inhabited
def ctD (l : List Cut) (i : Nat) : Cut := l.getD i default
def long (c : Cut) : Int := c.until_ - c.from_ + 1
/-- How many frames are left behind cuts, and the error of these. -/
def madeK (f : Int) : List Cut → Int × Int
  | [] => (f, 0)
  | c :: l => if (inB c.from_ 0 (f - 1) && inB c.until_ 0 (f - 1)) = false then (0, 7) else if c.until_ < c.from_ then (0, 2) else madeK (f - long c) l
def madeV (f : Int) (l : List Cut) : Int × Int := if inB f 1 200000 = false then (0, 7) else if 30 < l.length then (0, 3) else madeK f l
/-- The frame behind cuts; none: it is cut out. -/
def aft : List Cut → Int → Option Int
  | [], f => some f
  | c :: l, f => if c.from_ ≤ f ∧ f ≤ c.until_ then none else aft l (if c.until_ < f then f - long c else f)
def afterV (frames : Int) (l : List Cut) (f : Int) : Int × Int :=
  if (madeV frames l).2 ≠ 0 then (0, (madeV frames l).2) else if inB f 0 (frames - 1) = false then (0, 7) else match aft l f with
    | none => (0, 4)
    | some a => (a, 0)
/-- Cuts that can be made. -/
inductive CutsOk : Int → List Cut → Int → Prop
  | nil (f : Int) : CutsOk f [] f
  | cons {f : Int} {c : Cut} {l : List Cut} {g : Int} (h0 : 0 ≤ c.from_) (h1 : c.from_ ≤ c.until_) (h2 : c.until_ ≤ f - 1) (h : CutsOk (f - long c) l g) : CutsOk f (c :: l) g
theorem madeK_ok : ∀ {l : List Cut} {f : Int}, (madeK f l).2 = 0 → CutsOk f l (madeK f l).1
  | [], f, _ => .nil f
  | c :: l, f, h => by
    rw [madeK] at h ⊢
    split at h
    · cases h
    · rename_i h1
      split at h
      · cases h
      · rename_i h2
        rw [if_neg h1, if_neg h2]
        have h3 : inB c.from_ 0 (f - 1) = true ∧ inB c.until_ 0 (f - 1) = true := by simpa using h1
        have a := inB_iff.1 h3.1; have b := inB_iff.1 h3.2
        exact .cons a.1 (by omega) b.2 (madeK_ok h)
end Go.Proofs.YtapeakbngligaaaGreatDoor.D
namespace Go.Proofs.YtapeakbngligaaaGreatDoor.D
structure Note where
  by_ : ByteArray
  number : Int
  rev : Int
  kind : Int
  from_ : Int
  until_ : Int
  mlo : Int
  mhi : Int
  deriving DecidableEq, Inhabited
def ntD (l : List Note) (i : Nat) : Note := l.getD i default
def ltB (a b : ByteArray) : Bool := decide (a.data.toList < b.data.toList)
/-- cmp.Compare of two strings. -/
def cmpS (a b : ByteArray) : Int := if ltB a b then -1 else if ltB b a then 1 else 0
theorem ltB_irrefl (a : ByteArray) : ltB a a = false := by unfold ltB; exact decide_eq_false (List.lt_irrefl _)
theorem ltB_asymm {a b : ByteArray} (h : ltB a b = true) : ltB b a = false := by
  unfold ltB at *
  have h1 := of_decide_eq_true h
  exact decide_eq_false (fun h2 => List.lt_irrefl _ (List.lt_trans h1 h2))
theorem ltB_trans {a b c : ByteArray} (h : ltB a b = true) (g : ltB b c = true) : ltB a c = true := by
  unfold ltB at *
  exact decide_eq_true (List.lt_trans (of_decide_eq_true h) (of_decide_eq_true g))
theorem ba_ext {a b : ByteArray} (h : a.data.toList = b.data.toList) : a = b := by
  cases a; cases b; congr; exact Array.ext' h
theorem ltB_total {a b : ByteArray} (h1 : ltB a b = false) (h2 : ltB b a = false) : a = b := by
  unfold ltB at *
  have g1 := of_decide_eq_false h1; have g2 := of_decide_eq_false h2
  exact ba_ext (List.le_antisymm (List.not_lt.1 g2) (List.not_lt.1 g1))
theorem cmpS_zero {a b : ByteArray} : cmpS a b = 0 ↔ a = b := by
  unfold cmpS
  constructor
  · intro h
    split at h
    · cases h
    · split at h
      · cases h
      · rename_i h1 h2
        exact ltB_total (by simpa using h1) (by simpa using h2)
  · rintro rfl; rw [ltB_irrefl]; rfl
theorem cmpS_neg {a b : ByteArray} : cmpS a b < 0 ↔ ltB a b = true := by
  unfold cmpS
  by_cases h : ltB a b = true
  · rw [if_pos h]; simp [h]
  · rw [if_neg h]; constructor
    · intro h2; split at h2 <;> omega
    · intro h2; exact absurd h2 h
theorem cmpS_swap (a b : ByteArray) : cmpS b a = - cmpS a b := by
  unfold cmpS
  by_cases h : ltB a b = true
  · simp [h, ltB_asymm h]
  · by_cases g : ltB b a = true
    · simp [h, g]
    · simp [h, g]
theorem cmpS_trans {a b c : ByteArray} (h : cmpS a b < 0) (g : cmpS b c < 0) : cmpS a c < 0 := cmpS_neg.2 (ltB_trans (cmpS_neg.1 h) (cmpS_neg.1 g))
def fst0 : List Int → Int
  | [] => 0
  | x :: l => if x ≠ 0 then x else fst0 l
def ordV (a b : Note) : Int := fst0 [a.from_ - b.from_, a.until_ - b.until_, a.kind - b.kind, cmpS a.by_ b.by_, a.number - b.number, a.rev - b.rev, a.mlo - b.mlo, a.mhi - b.mhi]
theorem fst0_zero : ∀ {l : List Int}, fst0 l = 0 ↔ ∀ x ∈ l, x = 0
  | [] => by simp [fst0]
  | x :: l => by
    rw [fst0]
    by_cases h : x = 0
    · rw [if_neg (by simpa using h), fst0_zero]; simp [h]
    · rw [if_pos h]; simp [h]
theorem ordV_zero {a b : Note} : ordV a b = 0 ↔ a = b := by
  unfold ordV
  rw [fst0_zero]
  constructor
  · intro h
    have h1 := h _ (List.mem_cons_self)
    have g := fun x hx => h x hx
    simp only [List.mem_cons, List.not_mem_nil, or_false, forall_eq_or_imp, forall_eq] at h
    obtain ⟨p1, p2, p3, p4, p5, p6, p7, p8⟩ := h
    cases a; cases b
    simp only at p1 p2 p3 p4 p5 p6 p7 p8
    rw [cmpS_zero] at p4
    simp only [Note.mk.injEq]
    exact ⟨p4, by omega, by omega, by omega, by omega, by omega, by omega, by omega⟩
  · rintro rfl
    simp [cmpS_zero.2 rfl]
theorem ordV_swap (a b : Note) : ordV b a = - ordV a b := by
  have h : ∀ x y z u v p q r : Int, ∀ x' y' z' u' v' p' q' r' : Int, x' = -x → y' = -y → z' = -z → u' = -u → v' = -v → p' = -p → q' = -q → r' = -r → fst0 [x', y', z', u', v', p', q', r'] = - fst0 [x, y, z, u, v, p, q, r] := by
    intro x y z u v p q r x' y' z' u' v' p' q' r' h1 h2 h3 h4 h5 h6 h7 h8
    subst h1 h2 h3 h4 h5 h6 h7 h8
    simp only [fst0, ne_eq, Int.neg_eq_zero]
    repeat' split
    all_goals rfl
  unfold ordV
  exact h _ _ _ _ _ _ _ _ _ _ _ _ _ _ _ _ (by omega) (by omega) (by omega) (cmpS_swap _ _) (by omega) (by omega) (by omega) (by omega)
/-- Three lists of differences, of the first and the second, the second and the third, the first and the third. -/
inductive Tri : List Int → List Int → List Int → Prop
  | nil : Tri [] [] []
  | cons {x y z : Int} {l m n : List Int} (h1 : x = 0 → z = y) (h2 : y = 0 → z = x) (h3 : x < 0 → y < 0 → z < 0) (h : Tri l m n) : Tri (x :: l) (y :: m) (z :: n)
theorem Tri.neg : ∀ {l m n : List Int}, Tri l m n → fst0 l < 0 → fst0 m < 0 → fst0 n < 0
  | _, _, _, .nil, h, _ => by cases h
  | _, _, _, .cons (x := x) (y := y) (z := z) h1 h2 h3 h, hl, hm => by
    rw [fst0] at hl hm ⊢
    by_cases hx : x = 0
    · rw [if_neg (by simpa using hx)] at hl
      rw [h1 hx]
      by_cases hy : y = 0
      · rw [if_neg (by simpa using hy)] at hm ⊢
        exact h.neg hl hm
      · rw [if_pos hy] at hm ⊢; exact hm
    · rw [if_pos hx] at hl
      by_cases hy : y = 0
      · rw [h2 hy, if_pos hx]; exact hl
      · rw [if_pos hy] at hm
        have := h3 hl hm
        rw [if_pos (by omega)]; exact this
theorem ordV_trans {a b c : Note} (h : ordV a b < 0) (g : ordV b c < 0) : ordV a c < 0 := by
  unfold ordV at *
  refine Tri.neg ?_ h g
  refine .cons (by omega) (by omega) (by omega) (.cons (by omega) (by omega) (by omega) (.cons (by omega) (by omega) (by omega) (.cons (fun e => ?_) (fun e => ?_) cmpS_trans (.cons (by omega) (by omega) (by omega) (.cons (by omega) (by omega) (by omega) (.cons (by omega) (by omega) (by omega) (.cons (by omega) (by omega) (by omega) .nil)))))))
  · rw [cmpS_zero.1 e]
  · rw [cmpS_zero.1 e]
/-! Lists in order. -/
def InOrd (l : List Note) : Prop := l.Pairwise fun a b => ordV a b < 0
theorem inOrd_uniq : ∀ {l m : List Note}, InOrd l → InOrd m → (∀ x, x ∈ l ↔ x ∈ m) → l = m
  | [], [], _, _, _ => rfl
  | [], y :: m, _, _, h => by have := (h y).2 (List.mem_cons_self); cases this
  | x :: l, [], _, _, h => by have := (h x).1 (List.mem_cons_self); cases this
  | x :: l, y :: m, hl, hm, h => by
    have hl' := List.pairwise_cons.1 hl; have hm' := List.pairwise_cons.1 hm
    have hxy : x = y := by
      rcases List.mem_cons.1 ((h x).1 (List.mem_cons_self)) with e | e
      · exact e
      · rcases List.mem_cons.1 ((h y).2 (List.mem_cons_self)) with e2 | e2
        · exact e2.symm
        · have a1 := hm'.1 x e; have a2 := hl'.1 y e2
          rw [ordV_swap] at a1; omega
    subst hxy
    congr 1
    refine inOrd_uniq hl'.2 hm'.2 (fun z => ⟨fun hz => ?_, fun hz => ?_⟩)
    · rcases List.mem_cons.1 ((h z).1 (List.mem_cons_of_mem _ hz)) with e | e
      · have := hl'.1 z hz; rw [e, ordV_zero.2 rfl] at this; omega
      · exact e
    · rcases List.mem_cons.1 ((h z).2 (List.mem_cons_of_mem _ hz)) with e | e
      · have := hm'.1 z hz; rw [e, ordV_zero.2 rfl] at this; omega
      · exact e
/-- A note is put into a list in order, once. -/
def insN (x : Note) : List Note → List Note
  | [] => [x]
  | y :: l => if ordV y x < 0 then y :: insN x l else if y = x then y :: l else x :: y :: l
theorem insN_mem {x z : Note} : ∀ {l : List Note}, z ∈ insN x l ↔ z = x ∨ z ∈ l
  | [] => by simp [insN]
  | y :: l => by
    rw [insN]
    split
    · rw [List.mem_cons, insN_mem, List.mem_cons]
      constructor
      · rintro (h | h | h)
        · exact .inr (.inl h)
        · exact .inl h
        · exact .inr (.inr h)
      · rintro (h | h | h)
        · exact .inr (.inl h)
        · exact .inl h
        · exact .inr (.inr h)
    · split
      · rename_i h; subst h; simp
      · simp
theorem insN_ord {x : Note} : ∀ {l : List Note}, InOrd l → InOrd (insN x l)
  | [], _ => by unfold insN InOrd; simp
  | y :: l, h => by
    have h' := List.pairwise_cons.1 h
    rw [insN]
    split
    · rename_i hy
      refine List.pairwise_cons.2 ⟨fun z hz => ?_, insN_ord h'.2⟩
      rcases insN_mem.1 hz with rfl | hz
      · exact hy
      · exact h'.1 z hz
    · split
      · exact h
      · rename_i h1 h2
        have hxy : ordV x y < 0 := by
          have e := ordV_swap x y
          have : ordV y x ≠ 0 := fun e2 => h2 (ordV_zero.1 e2)
          omega
        refine List.pairwise_cons.2 ⟨fun z hz => ?_, h⟩
        rcases List.mem_cons.1 hz with rfl | hz
        · exact hxy
        · exact ordV_trans hxy (h'.1 z hz)
/-- A note of a list stands. -/
def standsB (l : List Note) (x : Note) : Bool := l.all fun y => !(decide (y.by_ = x.by_) && decide (y.number = x.number) && (decide (x.rev < y.rev) || (decide (y.rev = x.rev) && decide (y ≠ x))))
def standK (l : List Note) : List Note → List Note → List Note
  | [], out => out
  | x :: r, out => standK l r (if standsB l x then insN x out else out)
def standV (l : List Note) : List Note := standK l l []
theorem standK_mem {l : List Note} {z : Note} : ∀ {r out : List Note}, z ∈ standK l r out ↔ (z ∈ r ∧ standsB l z = true) ∨ z ∈ out
  | [], out => by simp [standK]
  | x :: r, out => by
    rw [standK, standK_mem]
    by_cases h : standsB l x = true
    · rw [if_pos h, insN_mem, List.mem_cons]
      constructor
      · rintro (⟨a, b⟩ | rfl | a)
        · exact .inl ⟨.inr a, b⟩
        · exact .inl ⟨.inl rfl, h⟩
        · exact .inr a
      · rintro (⟨rfl | a, b⟩ | a)
        · exact .inr (.inl rfl)
        · exact .inl ⟨a, b⟩
        · exact .inr (.inr a)
    · rw [if_neg h, List.mem_cons]
      constructor
      · rintro (⟨a, b⟩ | a)
        · exact .inl ⟨.inr a, b⟩
        · exact .inr a
      · rintro (⟨rfl | a, b⟩ | a)
        · exact absurd b h
        · exact .inl ⟨a, b⟩
        · exact .inr a
theorem standK_ord {l : List Note} : ∀ {r out : List Note}, InOrd out → InOrd (standK l r out)
  | [], _, h => h
  | x :: r, out, h => by
    rw [standK]
    refine standK_ord ?_
    split
    · exact insN_ord h
    · exact h
theorem standV_ord (l : List Note) : InOrd (standV l) := standK_ord List.Pairwise.nil
theorem standV_mem {l : List Note} {z : Note} : z ∈ standV l ↔ z ∈ l ∧ standsB l z = true := by unfold standV; rw [standK_mem]; simp
/-- The notes that stand do not hang on the order of a list, nor on how often a note is in it. -/
theorem standsB_iff {l : List Note} {x : Note} : standsB l x = true ↔ ∀ y ∈ l, y.by_ = x.by_ → y.number = x.number → y.rev ≤ x.rev ∧ (y.rev = x.rev → y = x) := by
  unfold standsB
  rw [List.all_eq_true]
  constructor
  · intro h y hy h1 h2
    have := h y hy
    simp only [h1, h2, decide_true, Bool.true_and, Bool.not_eq_true', Bool.or_eq_false_iff, decide_eq_false_iff_not, Bool.and_eq_false_imp, decide_eq_true_eq] at this
    exact ⟨by omega, fun e => Decidable.not_not.1 (this.2 e)⟩
  · intro h y hy
    by_cases h1 : y.by_ = x.by_
    · by_cases h2 : y.number = x.number
      · obtain ⟨h3, h4⟩ := h y hy h1 h2
        by_cases h5 : y.rev = x.rev
        · have := h4 h5; subst this; simp
        · simp [h5]; exact .inr h3
      · simp [h2]
    · simp [h1]
theorem standV_same {l m : List Note} (h : ∀ x, x ∈ l ↔ x ∈ m) : standV l = standV m :=
  inOrd_uniq (standV_ord l) (standV_ord m) fun z => by
    rw [standV_mem, standV_mem, standsB_iff, standsB_iff, h z]
    constructor
    · rintro ⟨a, b⟩; exact ⟨a, fun y hy => b y ((h y).2 hy)⟩
    · rintro ⟨a, b⟩; exact ⟨a, fun y hy => b y ((h y).1 hy)⟩
end Go.Proofs.YtapeakbngligaaaGreatDoor.D
namespace Go.Proofs.YtapeakbngligaaaGreatDoor.D
structure Span where
  lo : Int
  hi : Int
  deriving DecidableEq, Inhabited
structure Piece where
  from_ : Int
  until_ : Int
  leader : Bool
  deriving DecidableEq, Inhabited
structure Gap where
  frame : Int
  kind : Int
  lo : Int
  hi : Int
  deriving DecidableEq, Inhabited
structure Strike where
  by_ : ByteArray
  number : Int
  first : ByteArray
  firstN : Int
  deriving DecidableEq, Inhabited
structure Mark where
  frame : Int
  roll : Int
  number : Int
  deriving DecidableEq, Inhabited
def pcD (l : List Piece) (i : Nat) : Piece := l.getD i default
def gpD (l : List Gap) (i : Nat) : Gap := l.getD i default
def mkD (l : List Mark) (i : Nat) : Mark := l.getD i default
def spD (l : List Span) (i : Nat) : Span := l.getD i default
/-- A note of a kind is about a frame. -/
def about (l : List Note) (kind f : Int) : Bool := l.any fun x => decide (x.kind = kind) && inB f x.from_ x.until_
/-- The pieces behind so many frames. -/
def pieceK (l : List Note) : Nat → List Piece
  | 0 => []
  | f + 1 =>
    if 0 < (pieceK l f).length ∧ (pcD (pieceK l f) ((pieceK l f).length - 1)).leader = about l 3 f ∧ (about l 3 f = true ∨ about l 1 f = false)
    then (pieceK l f).set ((pieceK l f).length - 1) { pcD (pieceK l f) ((pieceK l f).length - 1) with until_ := (f : Int) }
    else pieceK l f ++ [⟨f, f, about l 3 f⟩]
/-- The torn frames behind so many. -/
def tornK (l : List Note) : Nat → List Span
  | 0 => []
  | f + 1 =>
    if about l 2 f = false then tornK l f
    else if 0 < (tornK l f).length ∧ (spD (tornK l f) ((tornK l f).length - 1)).hi = (f : Int) - 1
    then (tornK l f).set ((tornK l f).length - 1) { spD (tornK l f) ((tornK l f).length - 1) with hi := (f : Int) }
    else tornK l f ++ [⟨f, f⟩]
def comS (a b : Span) : Span := ⟨max a.lo b.lo, min a.hi b.hi⟩
/-- What notes tell of a gap: the first note there, what is missing, what is struck. -/
structure Told where
  first : Option Note
  is : Span
  struck : List Strike
def toldS (f : Int) (t : Told) (x : Note) : Told :=
  if x.kind ≠ 1 ∨ x.from_ ≠ f then t
  else match t.first with
    | none => ⟨some x, ⟨x.mlo, x.mhi⟩, t.struck⟩
    | some y => if (comS t.is ⟨x.mlo, x.mhi⟩).hi < (comS t.is ⟨x.mlo, x.mhi⟩).lo then ⟨t.first, t.is, t.struck ++ [⟨x.by_, x.number, y.by_, y.number⟩]⟩
      else ⟨t.first, comS t.is ⟨x.mlo, x.mhi⟩, t.struck⟩
def toldV (l : List Note) (f : Int) : Told := l.foldl (toldS f) ⟨none, ⟨0, 400000⟩, []⟩
/-- The gaps behind some pieces, and what is struck. -/
def gapS (l : List Note) (st : List Gap × List Strike) (p : Piece) : List Gap × List Strike :=
  if p.leader then st
  else if st.1.length = 0 then (st.1 ++ [⟨p.from_, 1, 0, 400000⟩], st.2)
  else (st.1 ++ [⟨p.from_, 2, (toldV l p.from_).is.lo, (toldV l p.from_).is.hi⟩], st.2 ++ (toldV l p.from_).struck)
def gapsN (frames : Nat) (l : List Note) : List Gap × List Strike :=
  let st := (pieceK l frames).foldl (gapS l) ([], [])
  if st.1.length = 0 then ([⟨frames, 1, 0, 400000⟩], []) else (st.1 ++ [⟨frames, 3, 0, 400000⟩], st.2)
/-- How many frames of picture are before a frame. -/
def picB (l : List Note) : Nat → Int
  | 0 => 0
  | f + 1 => if about l 3 f then picB l f else picB l f + 1
def endsS (l : List Gap) : Span := l.foldl (fun s g => ⟨s.lo + g.lo, s.hi + g.hi⟩) ⟨0, 0⟩
/-- Gaps whose missing frames are together in a span. -/
structure Grp where
  gaps : List Gap
  is : Span
  deriving Inhabited
/-- What some gaps of a group can have lost together: the others' sum is taken off. -/
def partG (g : Grp) (p : Gap → Bool) : Span :=
  comS (endsS (g.gaps.filter p)) ⟨g.is.lo - (endsS (g.gaps.filter fun x => !p x)).hi, g.is.hi - (endsS (g.gaps.filter fun x => !p x)).lo⟩
def betw (a b : Mark) (x : Gap) : Bool := decide (a.frame < x.frame) && decide (x.frame ≤ b.frame)
structure Grps where
  all : List Grp
  wrong : List Int
  left : Int
  rest : List Gap
/-- How many frames are missing between two marks. -/
def missN (foot : Int) (l : List Note) (a b : Mark) : Int := (b.number - a.number) * foot - (picB l (b.frame + 1).toNat - picB l (a.frame + 1).toNat)
def grpS (foot : Int) (l : List Note) (gs : List Gap) (ms : List Mark) (st : Grps) (i : Nat) : Grps :=
  if i = 0 ∨ (mkD ms (i - 1)).roll ≠ (mkD ms i).roll ∨ about l 3 (mkD ms (i - 1)).frame = true ∨ about l 3 (mkD ms i).frame = true then st
  else if inB (missN foot l (mkD ms (i - 1)) (mkD ms i)) (endsS (gs.filter (betw (mkD ms (i - 1)) (mkD ms i)))).lo (endsS (gs.filter (betw (mkD ms (i - 1)) (mkD ms i)))).hi = false
  then { st with wrong := st.wrong ++ [(i : Int)] }
  else ⟨st.all ++ [⟨gs.filter (betw (mkD ms (i - 1)) (mkD ms i)), ⟨missN foot l (mkD ms (i - 1)) (mkD ms i), missN foot l (mkD ms (i - 1)) (mkD ms i)⟩⟩], st.wrong, st.left + missN foot l (mkD ms (i - 1)) (mkD ms i), st.rest.filter fun x => !betw (mkD ms (i - 1)) (mkD ms i) x⟩
def grpsV (foot : Int) (frames : Nat) (l : List Note) (gs : List Gap) (ms : List Mark) (whole : Span) : List Grp × List Int :=
  let st := (List.range ms.length).foldl (grpS foot l gs ms) ⟨[], [], picB l frames, gs⟩
  (st.all ++ [⟨st.rest, ⟨whole.lo - st.left, whole.hi - st.left⟩⟩], st.wrong)
def grpOk (g : Grp) : Bool := decide ((comS (endsS g.gaps) g.is).lo ≤ (comS (endsS g.gaps) g.is).hi)
/-- Which frame of the whole picture a frame of picture can have been. -/
def placeG (l : List Note) (all : List Grp) (f : Nat) : Span :=
  all.foldl (fun s g => ⟨s.lo + (partG g fun x => decide (x.frame ≤ (f : Int))).lo, s.hi + (partG g fun x => decide (x.frame ≤ (f : Int))).hi⟩) ⟨picB l f, picB l f⟩
end Go.Proofs.YtapeakbngligaaaGreatDoor.D
namespace Go.Proofs.YtapeakbngligaaaGreatDoor.D
/-- What the program knows of a name, behind a note. -/
def stp (b : ByteArray) (n : Int) (st : Option Note × Bool) (x : Note) : Option Note × Bool :=
  if x.by_ ≠ b ∨ x.number ≠ n then st
  else match st.1 with
    | none => (some x, false)
    | some y => if y.rev < x.rev then (some x, false) else if x.rev = y.rev ∧ x ≠ y then (some y, true) else st
def lastV (l : List Note) (b : ByteArray) (n : Int) : Option Note × Bool := l.foldl (stp b n) (none, false)
structure LastInv (b : ByteArray) (n : Int) (l : List Note) (st : Option Note × Bool) : Prop where
  none_ : st.1 = none → st.2 = false ∧ ∀ x ∈ l, ¬ (x.by_ = b ∧ x.number = n)
  some_ : ∀ y, st.1 = some y → (y ∈ l ∧ y.by_ = b ∧ y.number = n) ∧ (∀ x ∈ l, x.by_ = b → x.number = n → x.rev ≤ y.rev) ∧ (st.2 = true ↔ ∃ x ∈ l, x.by_ = b ∧ x.number = n ∧ x.rev = y.rev ∧ x ≠ y)
theorem last_nil (b : ByteArray) (n : Int) : LastInv b n [] (none, false) := ⟨fun _ => ⟨rfl, fun x hx => by cases hx⟩, fun y h => by cases h⟩
theorem last_step {b : ByteArray} {n : Int} {l : List Note} {st : Option Note × Bool} (h : LastInv b n l st) (x : Note) : LastInv b n (l ++ [x]) (stp b n st x) := by
  obtain ⟨so, sb⟩ := st
  unfold stp
  by_cases hk : x.by_ ≠ b ∨ x.number ≠ n
  · rw [if_pos hk]
    refine ⟨fun h0 => ⟨(h.none_ h0).1, fun z hz => ?_⟩, fun y hy => ?_⟩
    · rcases List.mem_append.1 hz with hz | hz
      · exact (h.none_ h0).2 z hz
      · obtain rfl : z = x := by simpa using hz
        rintro ⟨a, c⟩; rcases hk with hk | hk
        · exact hk a
        · exact hk c
    · obtain ⟨⟨a1, a2, a3⟩, a4, a5⟩ := h.some_ y hy
      refine ⟨⟨List.mem_append_left _ a1, a2, a3⟩, fun z hz z1 z2 => ?_, a5.trans ⟨fun ⟨z, c1, c2⟩ => ⟨z, List.mem_append_left _ c1, c2⟩, fun ⟨z, c1, c2⟩ => ?_⟩⟩
      · rcases List.mem_append.1 hz with hz | hz
        · exact a4 z hz z1 z2
        · obtain rfl : z = x := by simpa using hz
          rcases hk with hk | hk
          · exact absurd z1 hk
          · exact absurd z2 hk
      · rcases List.mem_append.1 c1 with hz | hz
        · exact ⟨z, hz, c2⟩
        · obtain rfl : z = x := by simpa using hz
          rcases hk with hk | hk
          · exact absurd c2.1 hk
          · exact absurd c2.2.1 hk
  · rw [if_neg hk]
    have hb : x.by_ = b := Decidable.not_not.1 fun e => hk (.inl e)
    have hn : x.number = n := Decidable.not_not.1 fun e => hk (.inr e)
    have hmx : x ∈ l ++ [x] := List.mem_append_right _ (List.mem_singleton_self _)
    cases so with
    | none =>
      simp only
      obtain ⟨-, h2⟩ := h.none_ rfl
      refine ⟨fun h0 => (by cases h0), fun y hy => ?_⟩
      obtain rfl : x = y := by simpa using hy
      refine ⟨⟨hmx, hb, hn⟩, fun z hz z1 z2 => ?_, ⟨fun h0 => (by cases h0), fun ⟨z, c1, c2, c3, c4, c5⟩ => ?_⟩⟩
      · rcases List.mem_append.1 hz with hz | hz
        · exact absurd ⟨z1, z2⟩ (h2 z hz)
        · obtain rfl : z = x := by simpa using hz
          exact Int.le_refl _
      · rcases List.mem_append.1 c1 with hz | hz
        · exact absurd ⟨c2, c3⟩ (h2 z hz)
        · exact absurd (by simpa using hz) c5
    | some y =>
      simp only
      obtain ⟨⟨a1, a2, a3⟩, a4, a5⟩ := h.some_ y rfl
      by_cases h1 : y.rev < x.rev
      · rw [if_pos h1]
        refine ⟨fun h0 => (by cases h0), fun y' hy => ?_⟩
        obtain rfl : x = y' := by simpa using hy
        refine ⟨⟨hmx, hb, hn⟩, fun z hz z1 z2 => ?_, ⟨fun h0 => (by cases h0), fun ⟨z, c1, c2, c3, c4, c5⟩ => ?_⟩⟩
        · rcases List.mem_append.1 hz with hz | hz
          · have := a4 z hz z1 z2; omega
          · obtain rfl : z = x := by simpa using hz
            exact Int.le_refl _
        · rcases List.mem_append.1 c1 with hz | hz
          · have := a4 z hz c2 c3; omega
          · exact absurd (by simpa using hz) c5
      · rw [if_neg h1]
        by_cases h2 : x.rev = y.rev ∧ x ≠ y
        · rw [if_pos h2]
          refine ⟨fun h0 => (by cases h0), fun y' hy => ?_⟩
          obtain rfl : y = y' := by simpa using hy
          refine ⟨⟨List.mem_append_left _ a1, a2, a3⟩, fun z hz z1 z2 => ?_, ⟨fun _ => ⟨x, hmx, hb, hn, h2.1, h2.2⟩, fun _ => rfl⟩⟩
          rcases List.mem_append.1 hz with hz | hz
          · exact a4 z hz z1 z2
          · obtain rfl : z = x := by simpa using hz
            omega
        · rw [if_neg h2]
          refine ⟨fun h0 => (by cases h0), fun y' hy => ?_⟩
          obtain rfl : y = y' := by simpa using hy
          refine ⟨⟨List.mem_append_left _ a1, a2, a3⟩, fun z hz z1 z2 => ?_, a5.trans ⟨fun ⟨z, c1, c2⟩ => ⟨z, List.mem_append_left _ c1, c2⟩, fun ⟨z, c1, c2, c3, c4, c5⟩ => ?_⟩⟩
          · rcases List.mem_append.1 hz with hz | hz
            · exact a4 z hz z1 z2
            · obtain rfl : z = x := by simpa using hz
              omega
          · rcases List.mem_append.1 c1 with hz | hz
            · exact ⟨z, hz, c2, c3, c4, c5⟩
            · obtain rfl : z = x := by simpa using hz
              exact absurd ⟨c4, c5⟩ h2
theorem last_fold {b : ByteArray} {n : Int} : ∀ {r p : List Note} {st : Option Note × Bool}, LastInv b n p st → LastInv b n (p ++ r) (r.foldl (stp b n) st)
  | [], p, st, h => by rw [List.append_nil]; exact h
  | x :: r, p, st, h => by
    have h1 := last_fold (r := r) (last_step h x)
    rw [List.append_assoc] at h1
    exact h1
theorem last_inv (l : List Note) (b : ByteArray) (n : Int) : LastInv b n l (lastV l b n) := last_fold (last_nil b n)
/-- The last note of a name, not split: just the note of this name that stands. -/
theorem last_stands {l : List Note} {b : ByteArray} {n : Int} {y : Note} : lastV l b n = (some y, false) ↔ y ∈ standV l ∧ y.by_ = b ∧ y.number = n := by
  have h := last_inv l b n
  rcases hst : lastV l b n with ⟨so, sb⟩
  rw [hst] at h
  rw [standV_mem, standsB_iff]
  constructor
  · intro e
    simp only [Prod.mk.injEq] at e
    obtain ⟨rfl, rfl⟩ := e
    obtain ⟨⟨a1, a2, a3⟩, a4, a5⟩ := h.some_ y rfl
    refine ⟨⟨a1, fun z hz z1 z2 => ⟨a4 z hz (by rw [z1, a2]) (by rw [z2, a3]), fun hr => Decidable.not_not.1 fun hne => ?_⟩⟩, a2, a3⟩
    exact absurd (a5.2 ⟨z, hz, by rw [z1, a2], by rw [z2, a3], hr, hne⟩) (by simp)
  · rintro ⟨⟨a1, a2⟩, rfl, rfl⟩
    cases so with
    | none => exact absurd ⟨rfl, rfl⟩ ((h.none_ rfl).2 y a1)
    | some x =>
      obtain ⟨⟨b1, b2, b3⟩, b4, b5⟩ := h.some_ x rfl
      have c1 := b4 y a1 rfl rfl
      obtain ⟨c2, c3⟩ := a2 x b1 b2 b3
      obtain rfl : x = y := c3 (by omega)
      cases sb with
      | false => rfl
      | true =>
        obtain ⟨z, d1, d2, d3, d4, d5⟩ := b5.1 rfl
        exact absurd ((a2 z d1 d2 d3).2 d4) d5
end Go.Proofs.YtapeakbngligaaaGreatDoor.D
namespace Go.Proofs.YtapeakbngligaaaGreatDoor.D
structure Sym where
  roll : Int
  code : Int
  deriving DecidableEq, Inhabited
structure Len where
  frames : Int
  micro : Int
  err : Int
  deriving DecidableEq, Inhabited
structure Reel where
  name : ByteArray
  gauge : Int
  base : Int
  frames : Int
  ylo : Int
  yhi : Int
  keep : Int
  marks : List Mark
  syms : List Sym
  lens : List Len
structure Task where
  reel : Reel
  whole : Span
  notes : List Note
def syD (l : List Sym) (i : Nat) : Sym := l.getD i default
def lnD (l : List Len) (i : Nat) : Len := l.getD i default
def footV (g : Int) : Int := if g = 35 then 16 else if g = 16 then 40 else if g = 8 then 80 else 0
/-- The error of the reel itself. -/
def selfV (R : Reel) : Int :=
  if okName R.name = false then 6
  else if footV R.gauge = 0 ∨ inB R.base 1 3 = false then 2
  else if (inB R.frames 1 200000 && inB R.keep 0 50 && inB R.ylo 1890 2100 && inB R.yhi 1890 2100) = false then 7
  else if R.yhi < R.ylo then 2 else 0
def befK (l : List Mark) (i : Nat) : Int := if i = 0 then -1 else (mkD l (i - 1)).frame
def mkE (R : Reel) (i : Nat) : Int :=
  if (inB (mkD R.marks i).frame 0 (R.frames - 1) && inB (mkD R.marks i).roll 0 99 && inB (mkD R.marks i).number 0 9999) = false then 7
  else if (mkD R.marks i).frame ≤ befK R.marks i then 2 else 0
def syE (R : Reel) (i : Nat) : Int := if (inB (syD R.syms i).roll 0 99 && inB (syD R.syms i).code 0 19) = false then 7 else 0
def lnE (R : Reel) (i : Nat) : Int := if (inB (lnD R.lens i).frames 1 R.frames && inB (lnD R.lens i).micro 1 400000000 && inB (lnD R.lens i).err 0 400000000) = false then 7 else 0
/-- The first one of n that has an error. -/
def fstE (p : Nat → Int) (n : Nat) : Nat := firstN (fun i => decide (p i ≠ 0)) n
def filmL (R : Reel) : Int × Int × Int :=
  if 20 < R.lens.length then (4, 0, 3)
  else if fstE (lnE R) R.lens.length < R.lens.length then (4, (fstE (lnE R) R.lens.length : Nat), lnE R (fstE (lnE R) R.lens.length))
  else (0, 0, 0)
def filmS (R : Reel) : Int × Int × Int :=
  if 20 < R.syms.length then (3, 0, 3)
  else if fstE (syE R) R.syms.length < R.syms.length then (3, (fstE (syE R) R.syms.length : Nat), syE R (fstE (syE R) R.syms.length))
  else filmL R
def filmV (R : Reel) : Int × Int × Int :=
  if selfV R ≠ 0 then (1, 0, selfV R)
  else if 60 < R.marks.length then (2, 0, 3)
  else if fstE (mkE R) R.marks.length < R.marks.length then (2, (fstE (mkE R) R.marks.length : Nat), mkE R (fstE (mkE R) R.marks.length))
  else filmS R
theorem fstE_ne {p : Nat → Int} {n : Nat} (h : fstE p n < n) : p (fstE p n) ≠ 0 := of_decide_eq_true (firstN_spec.2 h)
theorem fstE_all {p : Nat → Int} {n : Nat} (h : ¬ fstE p n < n) : ∀ i, i < n → p i = 0 := fun i hi => by
  have hl := firstN_le (fun i => decide (p i ≠ 0)) n
  have := (firstN_spec (p := fun i => decide (p i ≠ 0)) (n := n)).1 i (by unfold fstE at h; omega)
  exact Decidable.not_not.1 (of_decide_eq_false this)
theorem fstE_at {p : Nat → Int} {k n : Nat} (h : ∀ i, i < k → p i = 0) (hk : p k ≠ 0) (hn : k < n) : fstE p n = k := firstN_at (p := fun i => decide (p i ≠ 0)) (fun i hi => decide_eq_false (fun hc => hc (h i hi))) (decide_eq_true hk) hn
theorem fstE_none {p : Nat → Int} {n : Nat} (h : ∀ i, i < n → p i = 0) : fstE p n = n := firstN_none (p := fun i => decide (p i ≠ 0)) fun i hi => decide_eq_false (fun hc => hc (h i hi))
theorem foot_cases (g : Int) : footV g = 16 ∨ footV g = 40 ∨ footV g = 80 ∨ footV g = 0 := by unfold footV; split <;> (try split) <;> (try split) <;> simp
/-- What is known of a reel without error. -/
structure ReelOk (R : Reel) : Prop where
  name : okName R.name = true
  foot : footV R.gauge ≠ 0
  frames : 1 ≤ R.frames ∧ R.frames ≤ 200000
  nm : R.marks.length ≤ 60
  mark : ∀ i, i < R.marks.length → (0 ≤ (mkD R.marks i).frame ∧ (mkD R.marks i).frame < R.frames) ∧ (0 ≤ (mkD R.marks i).roll ∧ (mkD R.marks i).roll ≤ 99) ∧ (0 ≤ (mkD R.marks i).number ∧ (mkD R.marks i).number ≤ 9999)
  up : ∀ i, 0 < i → i < R.marks.length → (mkD R.marks (i - 1)).frame < (mkD R.marks i).frame
theorem mkE_ok {R : Reel} {i : Nat} (h : mkE R i = 0) : ((0 ≤ (mkD R.marks i).frame ∧ (mkD R.marks i).frame < R.frames) ∧ (0 ≤ (mkD R.marks i).roll ∧ (mkD R.marks i).roll ≤ 99) ∧ (0 ≤ (mkD R.marks i).number ∧ (mkD R.marks i).number ≤ 9999)) ∧ befK R.marks i < (mkD R.marks i).frame := by
  unfold mkE at h
  split at h
  · cases h
  · rename_i h1
    simp only [Bool.not_eq_false, Bool.and_eq_true, inB_iff] at h1
    split at h
    · cases h
    · exact ⟨⟨⟨h1.1.1.1, by omega⟩, h1.1.2, h1.2⟩, by omega⟩
theorem reel_ok {R : Reel} (h : (filmV R).2.2 = 0) : ReelOk R := by
  unfold filmV at h
  split at h
  · rename_i h1; exact absurd h h1
  · rename_i h1
    have h1 := Decidable.not_not.1 h1
    split at h
    · cases h
    · rename_i h2
      split at h
      · rename_i h3; exact absurd h (fstE_ne h3)
      · rename_i h3
        have hm := fun i hi => mkE_ok (fstE_all h3 i hi)
        unfold selfV at h1
        split at h1
        · cases h1
        · rename_i g1
          split at h1
          · cases h1
          · rename_i g2
            split at h1
            · cases h1
            · rename_i g3
              simp only [Bool.not_eq_false, Bool.and_eq_true, inB_iff] at g3
              refine ⟨by simpa using g1, fun e => g2 (.inl e), g3.1.1.1, by omega, fun i hi => (hm i hi).1, fun i h0 hi => ?_⟩
              have := (hm i hi).2
              unfold befK at this; rw [if_neg (by omega)] at this; exact this
/-- The error of a note. -/
def noteE (x : Note) : Int :=
  if okName x.by_ = false then 6
  else if inB x.kind 1 3 = false then 2
  else if (inB x.number 1 999 && inB x.rev 0 99 && inB x.from_ 0 199999 && inB x.until_ 0 199999 && inB x.mlo 0 400000 && inB x.mhi 0 400000) = false then 7
  else if x.until_ < x.from_ ∨ x.mhi < x.mlo ∨ (x.kind = 1 ∧ x.from_ < x.until_) ∨ (x.kind ≠ 1 ∧ 0 < x.mhi) then 2 else 0
structure NoteOk (x : Note) : Prop where
  name : okName x.by_ = true
  kind : 1 ≤ x.kind ∧ x.kind ≤ 3
  number : 1 ≤ x.number ∧ x.number ≤ 999
  rev : 0 ≤ x.rev ∧ x.rev ≤ 99
  from_ : 0 ≤ x.from_ ∧ x.from_ ≤ 199999
  until_ : x.from_ ≤ x.until_ ∧ x.until_ ≤ 199999
  mis : 0 ≤ x.mlo ∧ x.mlo ≤ x.mhi ∧ x.mhi ≤ 400000
  one : x.kind = 1 → x.from_ = x.until_
  zero : x.kind ≠ 1 → x.mlo = 0 ∧ x.mhi = 0
theorem note_ok {x : Note} (h : noteE x = 0) : NoteOk x := by
  unfold noteE at h
  split at h
  · cases h
  · rename_i h1
    split at h
    · cases h
    · rename_i h2
      split at h
      · cases h
      · rename_i h3
        simp only [Bool.not_eq_false, Bool.and_eq_true, inB_iff] at h2 h3
        split at h
        · cases h
        · rename_i h4
          obtain ⟨⟨⟨⟨⟨a1, a2⟩, a3⟩, a4⟩, a5⟩, a6⟩ := h3
          refine ⟨by simpa using h1, h2, a1, a2, a3, by omega, by omega, fun hk => ?_, fun hk => ?_⟩
          · have : ¬ x.from_ < x.until_ := fun hc => h4 (.inr (.inr (.inl ⟨hk, hc⟩)))
            omega
          · have : ¬ 0 < x.mhi := fun hc => h4 (.inr (.inr (.inr ⟨hk, hc⟩)))
            omega
def taskE (T : Task) (i : Nat) : Int := if noteE (ntD T.notes i) ≠ 0 then noteE (ntD T.notes i) else if T.reel.frames ≤ (ntD T.notes i).until_ then 4 else 0
/-- The part, the index in it and the error of a task. -/
def checkV (T : Task) : Int × Int × Int :=
  if (filmV T.reel).2.2 ≠ 0 then (1, 0, (filmV T.reel).2.2)
  else if (inB T.whole.lo 1 400000 && inB T.whole.hi 1 400000) = false then (2, 0, 7)
  else if T.whole.hi < T.whole.lo then (2, 0, 2)
  else if 60 < T.notes.length then (3, 0, 3)
  else if fstE (taskE T) T.notes.length < T.notes.length then (3, (fstE (taskE T) T.notes.length : Nat), taskE T (fstE (taskE T) T.notes.length))
  else (0, 0, 0)
structure TaskOk (T : Task) : Prop where
  reel : ReelOk T.reel
  whole : 1 ≤ T.whole.lo ∧ T.whole.lo ≤ T.whole.hi ∧ T.whole.hi ≤ 400000
  nn : T.notes.length ≤ 60
  note : ∀ x ∈ T.notes, NoteOk x ∧ x.until_ < T.reel.frames
theorem nt_mem {l : List Note} {x : Note} (h : x ∈ l) : ∃ i, i < l.length ∧ x = ntD l i := by
  obtain ⟨i, hi, he⟩ := List.mem_iff_getElem.1 h
  exact ⟨i, hi, by unfold ntD; rw [List.getD_eq_getElem?_getD, List.getElem?_eq_getElem hi]; exact he.symm⟩
theorem nt_in {l : List Note} {i : Nat} (h : i < l.length) : ntD l i ∈ l := by
  unfold ntD; rw [List.getD_eq_getElem?_getD, List.getElem?_eq_getElem h]; exact List.getElem_mem h
theorem task_ok {T : Task} (h : (checkV T).2.2 = 0) : TaskOk T := by
  unfold checkV at h
  split at h
  · rename_i h1; exact absurd h h1
  · rename_i h1
    have h1 := Decidable.not_not.1 h1
    split at h
    · cases h
    · rename_i h2
      simp only [Bool.not_eq_false, Bool.and_eq_true, inB_iff] at h2
      split at h
      · cases h
      · rename_i h3
        split at h
        · cases h
        · rename_i h4
          split at h
          · rename_i h5; exact absurd h (fstE_ne h5)
          · rename_i h5
            have hall := fstE_all h5
            refine ⟨reel_ok h1, by omega, by omega, fun x hx => ?_⟩
            obtain ⟨i, hi, rfl⟩ := nt_mem hx
            have := hall i hi
            unfold taskE at this
            split at this
            · rename_i g1; exact absurd this g1
            · rename_i g1
              split at this
              · cases this
              · exact ⟨note_ok (Decidable.not_not.1 g1), by omega⟩
/-- The first error of notes. -/
def listE : List Note → Int
  | [] => 0
  | x :: l => if noteE x ≠ 0 then noteE x else listE l
def listsE : List (List Note) → Int
  | [] => 0
  | l :: r => if 60 < l.length then 3 else if listE l ≠ 0 then listE l else listsE r
def mergeV (ls : List (List Note)) : List Note × Int :=
  if 8 < ls.length then ([], 3)
  else if listsE ls ≠ 0 then ([], listsE ls)
  else if 60 < (standV ls.flatten).length then ([], 3)
  else (standV ls.flatten, 0)
theorem listE_ok {l : List Note} : listE l = 0 ↔ ∀ x ∈ l, noteE x = 0 := by
  induction l with
  | nil => simp [listE]
  | cons x l ih =>
    rw [listE]
    by_cases h : noteE x = 0
    · rw [if_neg (by simpa using h), ih]; simp [h]
    · rw [if_pos h]; simp [h]
theorem listsE_ok {r : List (List Note)} : listsE r = 0 ↔ ∀ l ∈ r, l.length ≤ 60 ∧ ∀ x ∈ l, noteE x = 0 := by
  induction r with
  | nil => simp [listsE]
  | cons l r ih =>
    rw [listsE]
    by_cases h : 60 < l.length
    · rw [if_pos h]; simp; intro h2; omega
    · rw [if_neg h]
      by_cases h2 : listE l = 0
      · rw [if_neg (by simpa using h2), ih]
        have := listE_ok.1 h2
        simp; intro _; exact ⟨by omega, this⟩
      · rw [if_pos h2]
        constructor
        · intro h3; exact absurd h3 h2
        · intro h3; exact absurd (listE_ok.2 (h3 l (by simp)).2) h2
end Go.Proofs.YtapeakbngligaaaGreatDoor.D
namespace Go.Proofs.YtapeakbngligaaaGreatDoor.D
def sumG (n : Gap → Int) : List Gap → Int
  | [] => 0
  | g :: l => n g + sumG n l
theorem ends_fold : ∀ (l : List Gap) (s : Span), l.foldl (fun s g => (⟨s.lo + g.lo, s.hi + g.hi⟩ : Span)) s = ⟨s.lo + sumG (·.lo) l, s.hi + sumG (·.hi) l⟩
  | [], s => by simp [sumG]
  | g :: l, s => by
    rw [List.foldl_cons, ends_fold]
    simp only [sumG, Span.mk.injEq]
    omega
theorem endsS_eq (l : List Gap) : endsS l = ⟨sumG (·.lo) l, sumG (·.hi) l⟩ := by unfold endsS; rw [ends_fold]; simp
theorem sumG_split (n : Gap → Int) (p : Gap → Bool) : ∀ l : List Gap, sumG n l = sumG n (l.filter p) + sumG n (l.filter fun x => !p x)
  | [] => by simp [sumG]
  | g :: l => by
    have ih := sumG_split n p l
    rw [sumG, ih]
    by_cases h : p g = true
    · simp only [List.filter_cons, h, Bool.not_true, Bool.false_eq_true, if_false, if_true, sumG]; omega
    · have h' : p g = false := by simpa using h
      simp only [List.filter_cons, h', Bool.not_false, if_true, Bool.false_eq_true, if_false, sumG]; omega
theorem sumG_le {n m : Gap → Int} : ∀ {l : List Gap}, (∀ g ∈ l, n g ≤ m g) → sumG n l ≤ sumG m l
  | [], _ => by simp [sumG]
  | g :: l, h => by
    have h1 := h g (List.mem_cons_self)
    have h2 := sumG_le fun x hx => h x (List.mem_cons_of_mem _ hx)
    rw [sumG, sumG]; omega
/-- What is true of all gaps of a group is in what the group tells of some of them. -/
theorem part_sound {g : Grp} {n : Gap → Int} (hn : ∀ x ∈ g.gaps, x.lo ≤ n x ∧ n x ≤ x.hi) (hs : g.is.lo ≤ sumG n g.gaps ∧ sumG n g.gaps ≤ g.is.hi) (p : Gap → Bool) :
    (partG g p).lo ≤ sumG n (g.gaps.filter p) ∧ sumG n (g.gaps.filter p) ≤ (partG g p).hi := by
  have h1 := sumG_split n p g.gaps
  have a1 := sumG_le (n := (·.lo)) (m := n) (l := g.gaps.filter p) fun x hx => (hn x (List.mem_filter.1 hx).1).1
  have a2 := sumG_le (n := n) (m := (·.hi)) (l := g.gaps.filter p) fun x hx => (hn x (List.mem_filter.1 hx).1).2
  have a3 := sumG_le (n := (·.lo)) (m := n) (l := g.gaps.filter fun x => !p x) fun x hx => (hn x (List.mem_filter.1 hx).1).1
  have a4 := sumG_le (n := n) (m := (·.hi)) (l := g.gaps.filter fun x => !p x) fun x hx => (hn x (List.mem_filter.1 hx).1).2
  unfold partG comS
  rw [endsS_eq, endsS_eq]
  simp only
  omega
/-- A group that has an answer tells of any part at least one number. -/
theorem part_some {g : Grp} (hg : ∀ x ∈ g.gaps, x.lo ≤ x.hi) (his : g.is.lo ≤ g.is.hi) (h : grpOk g = true) (p : Gap → Bool) : (partG g p).lo ≤ (partG g p).hi := by
  have h1 := sumG_split (·.lo) p g.gaps
  have h2 := sumG_split (·.hi) p g.gaps
  have a1 := sumG_le (n := (·.lo)) (m := (·.hi)) (l := g.gaps.filter p) fun x hx => hg x (List.mem_filter.1 hx).1
  have a2 := sumG_le (n := (·.lo)) (m := (·.hi)) (l := g.gaps.filter fun x => !p x) fun x hx => hg x (List.mem_filter.1 hx).1
  unfold grpOk comS at h
  rw [endsS_eq] at h
  have h3 := of_decide_eq_true h
  simp only at h3
  unfold partG comS
  rw [endsS_eq, endsS_eq]
  simp only
  omega
def partF (f : Nat) (x : Gap) : Bool := decide (x.frame ≤ (f : Int))
theorem place_fold (all : List Grp) (f : Nat) : ∀ s : Span, all.foldl (fun s g => (⟨s.lo + (partG g fun x => decide (x.frame ≤ (f : Int))).lo, s.hi + (partG g fun x => decide (x.frame ≤ (f : Int))).hi⟩ : Span)) s = ⟨s.lo + (all.map fun g => (partG g (partF f)).lo).sum, s.hi + (all.map fun g => (partG g (partF f)).hi).sum⟩ := by
  induction all with
  | nil => intro s; simp
  | cons g all ih =>
    intro s
    rw [List.foldl_cons, ih]
    simp only [List.map_cons, List.sum_cons, Span.mk.injEq]
    unfold partF
    omega
theorem placeG_eq (l : List Note) (all : List Grp) (f : Nat) : placeG l all f = ⟨picB l f + (all.map fun g => (partG g (partF f)).lo).sum, picB l f + (all.map fun g => (partG g (partF f)).hi).sum⟩ := by
  unfold placeG; rw [place_fold]
theorem sum_map_le {α : Type} {f g : α → Int} : ∀ {l : List α}, (∀ x ∈ l, f x ≤ g x) → (l.map f).sum ≤ (l.map g).sum
  | [], _ => by simp
  | x :: l, h => by
    have h1 := h x (List.mem_cons_self)
    have h2 := sum_map_le (f := f) (g := g) (l := l) fun y hy => h y (List.mem_cons_of_mem _ hy)
    rw [List.map_cons, List.map_cons, List.sum_cons, List.sum_cons]; omega
end Go.Proofs.YtapeakbngligaaaGreatDoor.D
namespace Go.Proofs.YtapeakbngligaaaGreatDoor.D
theorem pcD_last (Y : List Piece) (p : Piece) : pcD (Y ++ [p]) Y.length = p := by unfold pcD; simp
theorem pieceK_succ {l : List Note} {f : Nat} {Y : List Piece} {p : Piece} (h : pieceK l f = Y ++ [p]) :
    pieceK l (f + 1) = if p.leader = about l 3 f ∧ (about l 3 f = true ∨ about l 1 f = false) then Y ++ [{ p with until_ := (f : Int) }] else Y ++ [p] ++ [⟨f, f, about l 3 f⟩] := by
  rw [pieceK, h]
  have e : (Y ++ [p]).length - 1 = Y.length := by simp
  rw [e, pcD_last]
  have e2 : 0 < (Y ++ [p]).length := by simp
  by_cases hc : p.leader = about l 3 f ∧ (about l 3 f = true ∨ about l 1 f = false)
  · rw [if_pos ⟨e2, hc⟩, if_pos hc]; simp
  · rw [if_neg (fun h => hc h.2), if_neg hc]
theorem pieceK_one (l : List Note) : pieceK l 1 = [⟨0, 0, about l 3 0⟩] := by
  rw [pieceK]; simp [pieceK]
theorem pieceK_last (l : List Note) : ∀ f : Nat, ∃ Y p, pieceK l (f + 1) = Y ++ [p] ∧ p.until_ = (f : Int)
  | 0 => ⟨[], _, pieceK_one l, rfl⟩
  | f + 1 => by
    obtain ⟨Y, p, h, hu⟩ := pieceK_last l f
    rw [pieceK_succ h]
    split
    · exact ⟨Y, _, rfl, rfl⟩
    · exact ⟨Y ++ [p], _, rfl, rfl⟩
/-- What lies ahead of the last piece stays. -/
theorem pieceK_pre {l : List Note} {f : Nat} {Y : List Piece} {p : Piece} (h : pieceK l f = Y ++ [p]) : ∀ n, ∃ q R, pieceK l (f + n) = Y ++ q :: R
  | 0 => ⟨p, [], by rw [Nat.add_zero, h]⟩
  | n + 1 => by
    obtain ⟨q, R, hq⟩ := pieceK_pre h n
    obtain ⟨Z, z, hz⟩ : ∃ Z z, q :: R = Z ++ [z] := by
      rcases List.eq_nil_or_concat (q :: R) with h | ⟨Z, z, h⟩
      · cases h
      · exact ⟨Z, z, by rw [h, List.concat_eq_append]⟩
    rw [hz, ← List.append_assoc] at hq
    rw [← Nat.add_assoc, pieceK_succ hq]
    have hne : ∀ (A : List Piece) (a : Piece), ∃ q R, Y ++ (A ++ [a]) = Y ++ q :: R := fun A a => by
      cases A with
      | nil => exact ⟨a, [], rfl⟩
      | cons b A => exact ⟨b, A ++ [a], rfl⟩
    split
    · rw [List.append_assoc]; exact hne _ _
    · rw [List.append_assoc, List.append_assoc]
      have := hne (Z ++ [z]) ⟨(f + n : Nat), (f + n : Nat), about l 3 ((f + n : Nat) : Int)⟩
      simpa using this
theorem pieceK_yield {l : List Note} {f N : Nat} {Y : List Piece} {p : Piece} (h : pieceK l f = Y ++ [p]) (hn : ¬ (p.leader = about l 3 f ∧ (about l 3 f = true ∨ about l 1 f = false))) (hf : f + 1 ≤ N) : pcD (pieceK l N) Y.length = p ∧ Y.length + 1 < (pieceK l N).length := by
  have h1 := pieceK_succ h
  rw [if_neg hn] at h1
  obtain ⟨q, R, hq⟩ := pieceK_pre h1 (N - (f + 1))
  rw [show f + 1 + (N - (f + 1)) = N by omega] at hq
  rw [hq]
  constructor
  · unfold pcD; simp
  · simp
/-- Pieces that follow one another from one frame to another. -/
def ChainP : Int → List Piece → Int → Prop
  | a, [], b => a = b
  | a, p :: r, b => p.from_ = a ∧ p.from_ ≤ p.until_ ∧ ChainP (p.until_ + 1) r b
theorem ChainP.snoc : ∀ {P : List Piece} {a b : Int}, ChainP a P b → ∀ {p : Piece}, p.from_ = b → p.from_ ≤ p.until_ → ChainP a (P ++ [p]) (p.until_ + 1)
  | [], a, b, h, p, h1, h2 => ⟨by have : a = b := h; omega, h2, rfl⟩
  | q :: r, a, b, ⟨h1, h2, h3⟩, p, h4, h5 => ⟨h1, h2, h3.snoc h4 h5⟩
theorem ChainP.split : ∀ {P : List Piece} {a b : Int} {p : Piece}, ChainP a (P ++ [p]) b → ChainP a P p.from_ ∧ p.from_ ≤ p.until_ ∧ b = p.until_ + 1
  | [], a, b, p, ⟨h1, h2, h3⟩ => ⟨h1.symm, h2, (show p.until_ + 1 = b from h3).symm⟩
  | q :: r, a, b, p, ⟨h1, h2, h3⟩ => by
    obtain ⟨a1, a2, a3⟩ := h3.split
    exact ⟨⟨h1, h2, a1⟩, a2, a3⟩
theorem ChainP.le : ∀ {P : List Piece} {a b : Int}, ChainP a P b → a ≤ b
  | [], _, _, h => Int.le_of_eq h
  | q :: r, a, b, ⟨h1, h2, h3⟩ => by have := h3.le; omega
theorem ChainP.mem : ∀ {P : List Piece} {a b : Int}, ChainP a P b → ∀ p ∈ P, a ≤ p.from_ ∧ p.from_ ≤ p.until_ ∧ p.until_ < b
  | [], _, _, _, p, hp => by cases hp
  | q :: r, a, b, ⟨h1, h2, h3⟩, p, hp => by
    rcases List.mem_cons.1 hp with rfl | hp
    · have := h3.le; omega
    · have := h3.mem p hp; omega
theorem ChainP.len : ∀ {P : List Piece} {a b : Int}, ChainP a P b → (P.length : Int) ≤ b - a
  | [], _, _, h => by have : _ = _ := h; simp; omega
  | q :: r, a, b, ⟨h1, h2, h3⟩ => by have := h3.len; simp; omega
/-- What is known of the pieces behind some frames. -/
structure PcInv (l : List Note) (f : Nat) (P : List Piece) : Prop where
  chain : ChainP 0 P f
  lead : ∀ p ∈ P, ∀ g : Int, p.from_ ≤ g → g ≤ p.until_ → about l 3 g = p.leader
  inner : ∀ p ∈ P, p.leader = false → ∀ g : Int, p.from_ < g → g ≤ p.until_ → about l 1 g = false
theorem pieceK_inv (l : List Note) : ∀ f : Nat, PcInv l f (pieceK l f)
  | 0 => by
    refine ⟨rfl, fun p hp => ?_, fun p hp => ?_⟩ <;> (rw [pieceK] at hp; cases hp)
  | f + 1 => by
    have ih := pieceK_inv l f
    cases f with
    | zero =>
      rw [pieceK_one]
      refine ⟨⟨rfl, Int.le_refl _, rfl⟩, fun p hp g h1 h2 => ?_, fun p hp _ g h1 h2 => ?_⟩
      · obtain rfl : p = _ := by simpa using hp
        have : g = 0 := by simp only at h1 h2; omega
        subst this; rfl
      · obtain rfl : p = _ := by simpa using hp
        simp only at h1 h2; omega
    | succ f =>
      obtain ⟨Y, p, h, hu⟩ := pieceK_last l f
      rw [h] at ih
      obtain ⟨c1, c2, c3⟩ := ih.chain.split
      have hm : p ∈ Y ++ [p] := by simp
      rw [pieceK_succ h]
      split
      · rename_i hc
        refine ⟨?_, fun q hq g h1 h2 => ?_, fun q hq hl g h1 h2 => ?_⟩
        · have := ChainP.snoc (p := { p with until_ := ((f + 1 : Nat) : Int) }) c1 rfl (by simp only; omega)
          simpa using this
        · rcases List.mem_append.1 hq with hq | hq
          · exact ih.lead q (List.mem_append_left _ hq) g h1 h2
          · obtain rfl : q = _ := by simpa using hq
            simp only at h1 h2 ⊢
            rcases Int.lt_or_le p.until_ g with h3 | h3
            · have : g = ((f + 1 : Nat) : Int) := by omega
              rw [this]; exact hc.1.symm
            · exact ih.lead p hm g h1 h3
        · rcases List.mem_append.1 hq with hq | hq
          · exact ih.inner q (List.mem_append_left _ hq) hl g h1 h2
          · obtain rfl : q = _ := by simpa using hq
            simp only at h1 h2 hl
            rcases Int.lt_or_le p.until_ g with h3 | h3
            · have : g = ((f + 1 : Nat) : Int) := by omega
              rw [this]
              rcases hc.2 with h4 | h4
              · rw [← hc.1, hl] at h4; cases h4
              · exact h4
            · exact ih.inner p hm hl g h1 h3
      · refine ⟨?_, fun q hq g h1 h2 => ?_, fun q hq hl g h1 h2 => ?_⟩
        · have := ChainP.snoc (p := ⟨((f + 1 : Nat) : Int), ((f + 1 : Nat) : Int), about l 3 ((f + 1 : Nat) : Int)⟩) ih.chain (by simp) (Int.le_refl _)
          simpa using this
        · rcases List.mem_append.1 hq with hq | hq
          · exact ih.lead q hq g h1 h2
          · obtain rfl : q = _ := by simpa using hq
            simp only at h1 h2 ⊢
            have : g = ((f + 1 : Nat) : Int) := Int.le_antisymm h2 h1
            rw [this]; rfl
        · rcases List.mem_append.1 hq with hq | hq
          · exact ih.inner q hq hl g h1 h2
          · obtain rfl : q = _ := by simpa using hq
            simp only at h1 h2; omega
theorem pieceK_len (l : List Note) (f : Nat) : (pieceK l f).length ≤ f := by
  have := (pieceK_inv l f).chain.len; omega
/-- Gaps in order of their frames. -/
def InFr (l : List Gap) : Prop := l.Pairwise fun a b => a.frame < b.frame
theorem inFr_uniq : ∀ {l m : List Gap}, InFr l → InFr m → (∀ x, x ∈ l ↔ x ∈ m) → l = m
  | [], [], _, _, _ => rfl
  | [], y :: m, _, _, h => by have := (h y).2 (List.mem_cons_self); cases this
  | x :: l, [], _, _, h => by have := (h x).1 (List.mem_cons_self); cases this
  | x :: l, y :: m, hl, hm, h => by
    have hl' := List.pairwise_cons.1 hl; have hm' := List.pairwise_cons.1 hm
    have hxy : x = y := by
      rcases List.mem_cons.1 ((h x).1 (List.mem_cons_self)) with e | e
      · exact e
      · rcases List.mem_cons.1 ((h y).2 (List.mem_cons_self)) with e2 | e2
        · exact e2.symm
        · have a1 := hm'.1 x e; have a2 := hl'.1 y e2
          omega
    subst hxy
    congr 1
    refine inFr_uniq hl'.2 hm'.2 (fun z => ⟨fun hz => ?_, fun hz => ?_⟩)
    · rcases List.mem_cons.1 ((h z).1 (List.mem_cons_of_mem _ hz)) with e | e
      · have := hl'.1 z hz; rw [e] at this; omega
      · exact e
    · rcases List.mem_cons.1 ((h z).2 (List.mem_cons_of_mem _ hz)) with e | e
      · have := hm'.1 z hz; rw [e] at this; omega
      · exact e
/-- What is known of the gaps behind some pieces: they are where pieces of picture begin, and what notes tell is not below 0. -/
structure GpInv (l : List Note) (P : List Piece) (b : Int) (G : List Gap) : Prop where
  ord : InFr G
  mem : ∀ g ∈ G, 0 ≤ g.frame ∧ g.frame < b ∧ 0 ≤ g.lo ∧ g.lo ≤ g.hi ∧ g.hi ≤ 400000 ∧ (g.kind = 1 ∨ g.kind = 2) ∧ ∃ p ∈ P, p.from_ = g.frame ∧ p.leader = false
  all : ∀ p ∈ P, p.leader = false → ∃ g ∈ G, g.frame = p.from_
structure ToldOk (t : Told) : Prop where
  lo : 0 ≤ t.is.lo
  le : t.is.lo ≤ t.is.hi
  hi : t.is.hi ≤ 400000
theorem told_step {f : Int} {t : Told} {x : Note} (h : ToldOk t) (hx : NoteOk x) : ToldOk (toldS f t x) := by
  unfold toldS
  split
  · exact h
  · split
    · exact ⟨hx.mis.1, hx.mis.2.1, hx.mis.2.2⟩
    · split
      · exact ⟨h.lo, h.le, h.hi⟩
      · rename_i h1
        have a := h.lo; have b := h.hi; have c := hx.mis
        unfold comS at h1 ⊢
        simp only at h1 ⊢
        exact ⟨by simp only; omega, by simp only; omega, by simp only; omega⟩
theorem told_fold {f : Int} : ∀ {l : List Note} {t : Told}, ToldOk t → (∀ x ∈ l, NoteOk x) → ToldOk (l.foldl (toldS f) t)
  | [], _, h, _ => h
  | x :: l, t, h, hl => told_fold (l := l) (t := toldS f t x) (told_step h (hl x (by simp))) fun y hy => hl y (by simp [hy])
theorem told_ok {l : List Note} (h : ∀ x ∈ l, NoteOk x) (f : Int) : ToldOk (toldV l f) := told_fold ⟨Int.le_refl _, by decide, Int.le_refl _⟩ h
theorem gapS_inv {l : List Note} (hl : ∀ x ∈ l, NoteOk x) : ∀ {P : List Piece} {a b : Int} {Q : List Piece} {st : List Gap × List Strike}, ChainP a P b → 0 ≤ a → GpInv l Q a st.1 → GpInv l (Q ++ P) b (P.foldl (gapS l) st).1
  | [], a, b, Q, st, h, _, hi => by rw [List.append_nil, ← (show a = b from h)]; exact hi
  | p :: r, a, b, Q, st, ⟨h1, h2, h3⟩, h0, hi => by
    rw [List.foldl_cons, show Q ++ p :: r = (Q ++ [p]) ++ r by simp]
    refine gapS_inv hl h3 (by omega) ?_
    have hm : ∀ g ∈ st.1, 0 ≤ g.frame ∧ g.frame < p.until_ + 1 ∧ 0 ≤ g.lo ∧ g.lo ≤ g.hi ∧ g.hi ≤ 400000 ∧ (g.kind = 1 ∨ g.kind = 2) ∧ ∃ q ∈ Q ++ [p], q.from_ = g.frame ∧ q.leader = false := fun g hg => by
      obtain ⟨a1, a2, a3, a4, a5, a6, q, a7, a8⟩ := hi.mem g hg
      exact ⟨a1, by omega, a3, a4, a5, a6, q, by simp [a7], a8⟩
    unfold gapS
    cases hp : p.leader with
    | true =>
      simp only [if_true]
      refine ⟨hi.ord, hm, fun q hq hq2 => ?_⟩
      rcases List.mem_append.1 hq with hq | hq
      · exact hi.all q hq hq2
      · obtain rfl : q = p := by simpa using hq
        rw [hp] at hq2; cases hq2
    | false =>
      simp only [Bool.false_eq_true, if_false]
      have key : ∀ x : Gap, x.frame = p.from_ → 0 ≤ x.lo → x.lo ≤ x.hi → x.hi ≤ 400000 → (x.kind = 1 ∨ x.kind = 2) → GpInv l (Q ++ [p]) (p.until_ + 1) (st.1 ++ [x]) := fun x e1 e2 e3 e4 e5 => by
        refine ⟨List.pairwise_append.2 ⟨hi.ord, by simp, fun y hy z hz => ?_⟩, fun g hg => ?_, fun q hq hq2 => ?_⟩
        · obtain rfl : z = x := by simpa using hz
          have := (hi.mem y hy).2.1; omega
        · rcases List.mem_append.1 hg with hg | hg
          · exact hm g hg
          · obtain rfl : g = x := by simpa using hg
            exact ⟨by omega, by omega, e2, e3, e4, e5, p, by simp, e1.symm, hp⟩
        · rcases List.mem_append.1 hq with hq | hq
          · obtain ⟨g, g1, g2⟩ := hi.all q hq hq2
            exact ⟨g, by simp [g1], g2⟩
          · obtain rfl : q = p := by simpa using hq
            exact ⟨x, by simp, e1⟩
      split
      · exact key _ rfl (Int.le_refl _) (by simp only; omega) (Int.le_refl _) (.inl rfl)
      · have ht := told_ok hl p.from_
        exact key _ rfl ht.lo ht.le ht.hi (.inr rfl)
/-- The gaps of a reel. -/
structure GapsOk (frames : Nat) (G : List Gap) : Prop where
  ord : InFr G
  mem : ∀ g ∈ G, 0 ≤ g.frame ∧ g.frame ≤ (frames : Int) ∧ 0 ≤ g.lo ∧ g.lo ≤ g.hi ∧ g.hi ≤ 400000
theorem gaps_inv {l : List Note} (hl : ∀ x ∈ l, NoteOk x) (frames : Nat) : GpInv l (pieceK l frames) frames ((pieceK l frames).foldl (gapS l) ([], [])).1 := by
  have := gapS_inv hl (Q := []) (st := ([], [])) (pieceK_inv l frames).chain (Int.le_refl _) ⟨List.Pairwise.nil, fun g hg => (by cases hg), fun p hp => (by cases hp)⟩
  simpa using this
theorem gapsN_ok {l : List Note} (hl : ∀ x ∈ l, NoteOk x) (frames : Nat) : GapsOk frames (gapsN frames l).1 := by
  have h := gaps_inv hl frames
  unfold gapsN
  simp only
  split
  · refine ⟨by unfold InFr; simp, fun g hg => ?_⟩
    obtain rfl : g = _ := by simpa using hg
    simp only; omega
  · refine ⟨List.pairwise_append.2 ⟨h.ord, by simp, fun y hy z hz => ?_⟩, fun g hg => ?_⟩
    · obtain rfl : z = _ := by simpa using hz
      exact (h.mem y hy).2.1
    · rcases List.mem_append.1 hg with hg | hg
      · have := h.mem g hg; omega
      · obtain rfl : g = _ := by simpa using hg
        simp only; omega
theorem inFr_len : ∀ {l : List Gap} {a b : Int}, InFr l → (∀ g ∈ l, a ≤ g.frame ∧ g.frame ≤ b) → a ≤ b + 1 → (l.length : Int) ≤ b + 1 - a
  | [], a, b, _, _, h => by simp; omega
  | x :: l, a, b, h, hm, _ => by
    have h' := List.pairwise_cons.1 h
    have hx := hm x (by simp)
    have := inFr_len (l := l) (a := x.frame + 1) (b := b) h'.2 (fun g hg => ⟨by have := h'.1 g hg; omega, (hm g (by simp [hg])).2⟩) (by omega)
    simp; omega
theorem GapsOk.len {frames : Nat} {G : List Gap} (h : GapsOk frames G) : G.length ≤ frames + 1 := by
  have := inFr_len (a := 0) (b := frames) h.ord (fun g hg => ⟨(h.mem g hg).1, (h.mem g hg).2.1⟩) (by omega)
  omega
end Go.Proofs.YtapeakbngligaaaGreatDoor.D
namespace Go.Proofs.YtapeakbngligaaaGreatDoor.D
theorem foldl_take {α β : Type} {f : β → α → β} {d : α} {l : List α} {s : β} {k : Nat} (hk : k < l.length) : (l.take (k + 1)).foldl f s = f ((l.take k).foldl f s) (l.getD k d) := by
  rw [List.take_succ_eq_append_getElem hk, List.foldl_append]
  simp [List.getD_eq_getElem?_getD, List.getElem?_eq_getElem hk]
theorem filter_take {α : Type} {p : α → Bool} {d : α} {l : List α} {k : Nat} (hk : k < l.length) : (l.take (k + 1)).filter p = if p (l.getD k d) then (l.take k).filter p ++ [l.getD k d] else (l.take k).filter p := by
  rw [List.take_succ_eq_append_getElem hk, List.filter_append]
  have e : l.getD k d = l[k] := by simp [List.getD_eq_getElem?_getD, List.getElem?_eq_getElem hk]
  rw [e]
  cases h : p l[k] <;> simp [h]
theorem ends_snoc (l : List Gap) (x : Gap) : endsS (l ++ [x]) = ⟨(endsS l).lo + x.lo, (endsS l).hi + x.hi⟩ := by unfold endsS; rw [List.foldl_append]; rfl
theorem ends_nil : endsS [] = ⟨0, 0⟩ := rfl
def GapIn (x : Gap) : Prop := (0 ≤ x.frame ∧ x.frame ≤ 200000) ∧ 0 ≤ x.lo ∧ x.lo ≤ 400000 ∧ 0 ≤ x.hi ∧ x.hi ≤ 400000
theorem ends_in : ∀ {l : List Gap}, (∀ x ∈ l, GapIn x) → (0 ≤ (endsS l).lo ∧ (endsS l).lo ≤ 400000 * l.length) ∧ (0 ≤ (endsS l).hi ∧ (endsS l).hi ≤ 400000 * l.length) := fun {l} h => by
  rw [endsS_eq]
  induction l with
  | nil => simp [sumG]
  | cons x l ih =>
    have ih := ih fun y hy => h y (by simp [hy])
    have hx := (h x (by simp)).2
    simp only [sumG, List.length_cons] at ih ⊢
    omega
theorem ends_in' {l : List Gap} (h : ∀ x ∈ l, GapIn x) (hl : l.length ≤ 200001) : (0 ≤ (endsS l).lo ∧ (endsS l).lo ≤ 80000400000) ∧ (0 ≤ (endsS l).hi ∧ (endsS l).hi ≤ 80000400000) := by
  have := ends_in h
  have h2 : (400000 : Int) * l.length ≤ 80000400000 := by omega
  omega
theorem picB_in (l : List Note) : ∀ n, 0 ≤ picB l n ∧ picB l n ≤ n
  | 0 => by simp [picB]
  | n + 1 => by have := picB_in l n; rw [picB]; split <;> omega
/-- What is known of a group: its gaps are some of G in their order; what they lost together is a number or a span. -/
structure GrpIn (G : List Gap) (g : Grp) : Prop where
  sub : g.gaps.Sublist G
  lo : -100000000 ≤ g.is.lo ∧ g.is.lo ≤ 100000000
  hi : -100000000 ≤ g.is.hi ∧ g.is.hi ≤ 100000000
structure MarksIn (frames : Nat) (ms : List Mark) : Prop where
  n : ms.length ≤ 60
  mark : ∀ i, i < ms.length → (0 ≤ (mkD ms i).frame ∧ (mkD ms i).frame < (frames : Int)) ∧ (0 ≤ (mkD ms i).roll ∧ (mkD ms i).roll ≤ 99) ∧ (0 ≤ (mkD ms i).number ∧ (mkD ms i).number ≤ 9999)
  up : ∀ i, 0 < i → i < ms.length → (mkD ms (i - 1)).frame < (mkD ms i).frame
theorem miss_in {foot : Int} {l : List Note} {a b : Mark} (hf : 0 ≤ foot ∧ foot ≤ 80) (ha : 0 ≤ a.number ∧ a.number ≤ 9999) (hb : 0 ≤ b.number ∧ b.number ≤ 9999) (ha2 : 0 ≤ a.frame ∧ a.frame < 200000) (hb2 : 0 ≤ b.frame ∧ b.frame < 200000) : -1000000 ≤ missN foot l a b ∧ missN foot l a b ≤ 1000000 := by
  unfold missN
  have p1 := picB_in l (b.frame + 1).toNat
  have p2 := picB_in l (a.frame + 1).toNat
  have h1 : (b.number - a.number) * foot ≤ 799920 := by
    have : (b.number - a.number) * foot ≤ 9999 * foot := Int.mul_le_mul_of_nonneg_right (by omega) hf.1
    omega
  have h2 : -799920 ≤ (b.number - a.number) * foot := by
    have : -9999 * foot ≤ (b.number - a.number) * foot := Int.mul_le_mul_of_nonneg_right (by omega) hf.1
    omega
  omega
/-- The groups behind k marks. -/
def grpsK (foot : Int) (frames : Nat) (l : List Note) (gs : List Gap) (ms : List Mark) (k : Nat) : Grps := (List.range k).foldl (grpS foot l gs ms) ⟨[], [], picB l frames, gs⟩
theorem grpsK_succ (foot : Int) (frames : Nat) (l : List Note) (gs : List Gap) (ms : List Mark) (k : Nat) : grpsK foot frames l gs ms (k + 1) = grpS foot l gs ms (grpsK foot frames l gs ms k) k := by
  unfold grpsK; rw [List.range_succ, List.foldl_append]; rfl
/-- The span of frames of a group: no two groups of marks have one in common. -/
structure GrpsInv (gs : List Gap) (ms : List Mark) (k : Nat) (st : Grps) : Prop where
  all : ∀ g ∈ st.all, GrpIn gs g ∧ g.is.lo = g.is.hi ∧ ∃ i, 0 < i ∧ i < k ∧ i < ms.length ∧ g.gaps = gs.filter (betw (mkD ms (i - 1)) (mkD ms i))
  apart : st.all.Pairwise fun a b => ∀ x ∈ a.gaps, ∀ y ∈ b.gaps, x.frame < y.frame
  rest : st.rest.Sublist gs
  mem : ∀ x, x ∈ st.rest ↔ x ∈ gs ∧ ∀ g ∈ st.all, x ∉ g.gaps
  nall : st.all.length ≤ k
  nwrong : st.wrong.length ≤ k
  left : -1000000 * k ≤ st.left ∧ st.left ≤ 200000 + 1000000 * k
theorem marks_le {frames : Nat} {ms : List Mark} (h : MarksIn frames ms) : ∀ {j i : Nat}, i ≤ j → j < ms.length → (mkD ms i).frame ≤ (mkD ms j).frame
  | 0, i, h1, _ => by obtain rfl : i = 0 := by omega
                      exact Int.le_refl _
  | j + 1, i, h1, h2 => by
    rcases Nat.lt_or_ge j i with h3 | h3
    · obtain rfl : i = j + 1 := by omega
      exact Int.le_refl _
    · have a := marks_le h h3 (by omega)
      have b := h.up (j + 1) (by omega) h2
      rw [Nat.add_sub_cancel] at b; omega
theorem betw_iff {a b : Mark} {x : Gap} : betw a b x = true ↔ a.frame < x.frame ∧ x.frame ≤ b.frame := by unfold betw; simp
theorem grpS_inv {foot : Int} {frames : Nat} {l : List Note} {gs : List Gap} {ms : List Mark} (hm : MarksIn frames ms) (hf : 0 ≤ foot ∧ foot ≤ 80) (hfr : frames ≤ 200000) {k : Nat} (hk : k < ms.length) {st : Grps} (h : GrpsInv gs ms k st) : GrpsInv gs ms (k + 1) (grpS foot l gs ms st k) := by
  have up : GrpsInv gs ms (k + 1) st := ⟨fun g hg => by obtain ⟨a, a', i, b, c, d, e⟩ := h.all g hg; exact ⟨a, a', i, b, by omega, d, e⟩, h.apart, h.rest, h.mem, by have := h.nall; omega, by have := h.nwrong; omega, by have := h.left; omega⟩
  unfold grpS
  split
  · exact up
  · rename_i h0
    split
    · exact ⟨up.all, up.apart, up.rest, up.mem, up.nall, by have := h.nwrong; simp; omega, up.left⟩
    · have hk0 : 0 < k := by
        rcases Nat.eq_zero_or_pos k with e | e
        · exact absurd (.inl e) h0
        · exact e
      have q1 := hm.mark (k - 1) (by omega); have q2 := hm.mark k hk
      have hn := miss_in (l := l) (a := mkD ms (k - 1)) (b := mkD ms k) hf q1.2.2 q2.2.2 (by omega) (by omega)
      refine ⟨fun g hg => ?_, List.pairwise_append.2 ⟨h.apart, by simp, fun a ha b hb x hx y hy => ?_⟩, (List.filter_sublist).trans h.rest, fun x => ?_, by have := h.nall; simp; omega, by have := h.nwrong; simp only; omega, by have := h.left; simp only; omega⟩
      · rcases List.mem_append.1 hg with hg | hg
        · exact up.all g hg
        · obtain rfl : g = _ := by simpa using hg
          exact ⟨⟨List.filter_sublist, by simp only; omega, by simp only; omega⟩, rfl, k, hk0, by omega, hk, rfl⟩
      · obtain rfl : b = _ := by simpa using hb
        obtain ⟨-, -, i, i1, i2, i3, i4⟩ := h.all a ha
        rw [i4] at hx
        have a1 := betw_iff.1 (List.mem_filter.1 hx).2
        have a2 := betw_iff.1 (List.mem_filter.1 hy).2
        have a3 := marks_le hm (i := i) (j := k - 1) (by omega) (by omega)
        omega
      · simp only [List.mem_filter, h.mem x, List.mem_append, List.mem_singleton]
        constructor
        · rintro ⟨⟨a1, a2⟩, a3⟩
          refine ⟨a1, fun g hg => ?_⟩
          rcases hg with hg | rfl
          · exact a2 g hg
          · intro hx
            have := (List.mem_filter.1 hx).2
            rw [this] at a3; cases a3
        · rintro ⟨a1, a2⟩
          refine ⟨⟨a1, fun g hg => a2 g (.inl hg)⟩, ?_⟩
          cases hb : betw (mkD ms (k - 1)) (mkD ms k) x
          · rfl
          · exact absurd (List.mem_filter.2 ⟨a1, hb⟩) (a2 _ (.inr rfl))
theorem grpsK_inv {foot : Int} {frames : Nat} {l : List Note} {gs : List Gap} {ms : List Mark} (hm : MarksIn frames ms) (hf : 0 ≤ foot ∧ foot ≤ 80) (hfr : frames ≤ 200000) : ∀ k, k ≤ ms.length → GrpsInv gs ms k (grpsK foot frames l gs ms k)
  | 0, _ => by
    have hp := picB_in l frames
    refine ⟨fun g hg => ?_, List.Pairwise.nil, List.Sublist.refl _, fun x => ?_, Nat.le_refl _, Nat.le_refl _, ?_⟩
    · exact absurd hg (by simp [grpsK])
    · simp [grpsK]
    · simp only [grpsK, List.range_zero, List.foldl_nil]; omega
  | k + 1, hk => by rw [grpsK_succ]; exact grpS_inv hm hf hfr (by omega) (grpsK_inv hm hf hfr k (by omega))
theorem grpsV_eq (foot : Int) (frames : Nat) (l : List Note) (gs : List Gap) (ms : List Mark) (whole : Span) : grpsV foot frames l gs ms whole = ((grpsK foot frames l gs ms ms.length).all ++ [⟨(grpsK foot frames l gs ms ms.length).rest, ⟨whole.lo - (grpsK foot frames l gs ms ms.length).left, whole.hi - (grpsK foot frames l gs ms ms.length).left⟩⟩], (grpsK foot frames l gs ms ms.length).wrong) := rfl
/-- The sum that a group tells of some of its gaps, and whether there is one. -/
def someV (g : Grp) (p : Gap → Bool) : Span × Bool := (partG g p, decide ((partG g p).lo ≤ (partG g p).hi))
theorem filter_not_self {α : Type} {p : α → Bool} {l : List α} : (l.filter p).filter (fun x => !p x) = [] := by
  rw [List.filter_filter, List.filter_eq_nil_iff]
  intro a _ h
  revert h
  cases p a <;> simp
/-- A mark is right if the frames that are missing between it and the one before it are in what the gaps between tell. -/
theorem some_betw (gs : List Gap) (p : Gap → Bool) (n : Int) : (someV ⟨gs.filter p, ⟨n, n⟩⟩ p).2 = inB n (endsS (gs.filter p)).lo (endsS (gs.filter p)).hi := by
  unfold someV partG comS inB
  simp only
  rw [filter_not_self, List.filter_filter]
  have e : (gs.filter fun x => p x && p x) = gs.filter p := by congr 1; funext x; cases p x <;> rfl
  rw [e, ends_nil]
  by_cases h : (endsS (gs.filter p)).lo ≤ n ∧ n ≤ (endsS (gs.filter p)).hi
  · rw [decide_eq_true h]; exact decide_eq_true (by simp only; omega)
  · rw [decide_eq_false h]; exact decide_eq_false (by simp only; omega)
theorem some_all (g : Grp) : (someV g fun _ => true).2 = grpOk g := by
  unfold someV partG grpOk comS
  simp only
  have e1 : (g.gaps.filter fun _ => true) = g.gaps := by simp
  have e2 : (g.gaps.filter fun _ => !true) = [] := by simp
  rw [e1, e2, ends_nil]
  simp
end Go.Proofs.YtapeakbngligaaaGreatDoor.D
