/-
  Plain data of the vault chapter, and what its functions compute, plain.
-/
namespace Go.Proofs.YtkidicfpfknfoaaDoor.D
set_option linter.unusedVariables false
set_option linter.unusedSimpArgs false
def inB (n lo hi : Int) : Bool := decide (lo ≤ n ∧ n ≤ hi)
def intD (l : List Int) (i : Nat) : Int := l.getD i 0
structure Rm where
  name : ByteArray
  tlo : Int
  thi : Int
  dlo : Int
  dhi : Int
  people : Bool
  allows : Bool
  most : Int
  x : Int
  y : Int
instance : Inhabited Rm := ⟨⟨ByteArray.empty, 0, 0, 0, 0, false, false, 0, 0, 0⟩⟩
structure Cn where
  name : ByteArray
  base : Int
  frames : Int
  room : Int
instance : Inhabited Cn := ⟨⟨ByteArray.empty, 0, 0, 0⟩⟩
structure Stp where
  over : Int
  metres : Int
  deriving DecidableEq, Inhabited
structure Span where
  lo : Int
  hi : Int
  deriving DecidableEq, Inhabited
structure Site where
  rooms : List Rm
  cans : List Cn
  rlo : Int
  rhi : Int
  steps : List Stp
structure Mv where
  hour : Int
  can : Int
  to_ : Int
  deriving DecidableEq, Inhabited
structure Sty where
  room : Int
  hours : Int
  deriving DecidableEq, Inhabited
structure Nr where
  a : Int
  b : Int
  deriving DecidableEq, Inhabited
structure Day where
  tlo : Int
  thi : Int
  dlo : Int
  dhi : Int
  deriving DecidableEq, Inhabited
def rmD (l : List Rm) (i : Nat) : Rm := l.getD i default
def cnD (l : List Cn) (i : Nat) : Cn := l.getD i default
def stD (l : List Stp) (i : Nat) : Stp := l.getD i default
def mvD (l : List Mv) (i : Nat) : Mv := l.getD i default
def syD (l : List Sty) (i : Nat) : Sty := l.getD i default
def nrD (l : List Nr) (i : Nat) : Nr := l.getD i default
def dyD (l : List Day) (i : Nat) : Day := l.getD i default
def outB (n lo hi : Int) : Bool := decide (n < lo ∨ hi < n)
theorem outB_in (n lo hi : Int) : outB n lo hi = !inB n lo hi := by
  unfold outB inB
  by_cases h : lo ≤ n ∧ n ≤ hi
  · rw [decide_eq_true h, decide_eq_false (by omega)]; rfl
  · rw [decide_eq_false h, decide_eq_true (by omega)]; rfl
def sameS (a b : ByteArray) : Bool := a.data.toList == b.data.toList
theorem sameS_iff {a b : ByteArray} : sameS a b = true ↔ a = b := by
  unfold sameS
  rw [beq_iff_eq]
  constructor
  · intro h
    have : a.data = b.data := Array.ext' h
    cases a; cases b; simp_all
  · rintro rfl; rfl
def firstN (p : Nat → Bool) : Nat → Nat
  | 0 => 0
  | n + 1 => if firstN p n < n then firstN p n else if p n then n else n + 1
theorem firstN_le (p : Nat → Bool) : ∀ n, firstN p n ≤ n
  | 0 => Nat.le_refl _
  | n + 1 => by
    have := firstN_le p n
    rw [firstN]; split
    · omega
    · split <;> omega
theorem firstN_none {p : Nat → Bool} : ∀ {n : Nat}, (∀ i, i < n → p i = false) → firstN p n = n
  | 0, _ => rfl
  | n + 1, h => by
    have h1 := firstN_none (p := p) (n := n) (fun i hi => h i (by omega))
    rw [firstN, if_neg (by omega), if_neg (by rw [h n (by omega)]; simp)]
theorem firstN_at {p : Nat → Bool} {k : Nat} (h : ∀ i, i < k → p i = false) (hk : p k = true) : ∀ {n : Nat}, k < n → firstN p n = k
  | 0, h0 => absurd h0 (Nat.not_lt_zero k)
  | n + 1, h0 => by
    by_cases he : k = n
    · subst he
      have h1 := firstN_none (p := p) (n := k) h
      rw [firstN, if_neg (by omega), if_pos hk]
    · have h1 := firstN_at h hk (n := n) (by omega)
      rw [firstN, if_pos (by omega), h1]
theorem firstN_spec {p : Nat → Bool} : ∀ {n : Nat}, (∀ i, i < firstN p n → p i = false) ∧ (firstN p n < n → p (firstN p n) = true)
  | 0 => ⟨fun i hi => absurd hi (Nat.not_lt_zero i), fun h => absurd h (Nat.not_lt_zero _)⟩
  | n + 1 => by
    obtain ⟨h1, h2⟩ := firstN_spec (p := p) (n := n)
    have hl := firstN_le p n
    rw [firstN]
    split
    · rename_i h; exact ⟨h1, fun _ => h2 h⟩
    · rename_i h
      have he : firstN p n = n := by omega
      rw [he] at h1
      split
      · rename_i h3; exact ⟨h1, fun _ => h3⟩
      · rename_i h3
        refine ⟨fun i hi => ?_, fun h => absurd h (Nat.lt_irrefl _)⟩
        rcases Nat.lt_or_ge i n with h4 | h4
        · exact h1 i h4
        · obtain rfl : i = n := by omega
          simpa using h3
def idxF (p : Nat → Bool) (n : Nat) : Int := if firstN p n < n then (firstN p n : Int) else -1
def anyF (p : Nat → Bool) (n : Nat) : Bool := decide (firstN p n < n)
theorem anyF_succ (p : Nat → Bool) (n : Nat) : anyF p (n + 1) = (anyF p n || p n) := by
  unfold anyF
  have hl := firstN_le p n
  rw [firstN]
  by_cases h : firstN p n < n
  · rw [if_pos h, decide_eq_true h, decide_eq_true (by omega)]; rfl
  · rw [if_neg h, decide_eq_false h]
    cases hp : p n
    · rw [if_neg (by simp), decide_eq_false (by omega)]; rfl
    · rw [if_pos rfl, decide_eq_true (by omega)]; rfl
/-! Names. -/
def lowB (c : UInt8) : Bool := inB (c.toNat : Int) 97 122
def digB (c : UInt8) : Bool := inB (c.toNat : Int) 48 57
def nmAt (l : List UInt8) (i : Nat) : Bool := (lowB (l.getD i 0) || digB (l.getD i 0)) || ((l.getD i 0 == 45 && l.getD (i - 1) 0 != 45) && decide (i + 1 ≠ l.length))
def okName (s : ByteArray) : Bool := inB (s.size : Int) 1 24 && lowB (s.data.toList.getD 0 0) && !anyF (fun i => !nmAt s.data.toList i) s.size
/-! Sites. -/
def roomE (r : Rm) : Int :=
  if (inB r.tlo (-300) 600 && inB r.thi (-300) 600 && inB r.dlo 0 1000 && inB r.dhi 0 1000 && inB r.most 0 10000000 && inB r.x 0 10000 && inB r.y 0 10000) = false then 7
  else if r.thi < r.tlo ∨ r.dhi < r.dlo then 2 else 0
def twiceR (l : List Rm) (i : Nat) : Bool := anyF (fun k => sameS (rmD l k).name (rmD l i).name) i
def twiceC (l : List Cn) (i : Nat) : Bool := anyF (fun k => sameS (cnD l k).name (cnD l i).name) i
def rmE (l : List Rm) (i : Nat) : Int := if okName (rmD l i).name = false then 6 else if twiceR l i then 5 else roomE (rmD l i)
def canE (n : Nat) (c : Cn) : Int := if inB c.base 1 3 = false then 2 else if inB c.frames 1 200000 = false then 7 else if inB c.room 0 (n - 1) = false then 4 else 0
def cnE (S : Site) (i : Nat) : Int := if okName (cnD S.cans i).name = false then 6 else if twiceC S.cans i then 5 else canE S.rooms.length (cnD S.cans i)
def stE (l : List Stp) (i : Nat) : Int :=
  if (inB (stD l i).over 0 10000000 && inB (stD l i).metres 0 10000) = false then 7
  else if 0 < i ∧ ((stD l i).over ≤ (stD l (i - 1)).over ∨ (stD l i).metres < (stD l (i - 1)).metres) then 2 else 0
def firstW (l : List Cn) : List Int := l.map (·.room)
/-- The nitrate in a room, of the first k cans. -/
def amtK (C : List Cn) (wh : List Int) (r : Int) : Nat → Int
  | 0 => 0
  | k + 1 => amtK C wh r k + if intD wh k = r ∧ (cnD C k).base = 1 then (cnD C k).frames else 0
def overB (S : Site) (i : Nat) : Bool :=
  decide ((cnD S.cans i).base = 1 ∧ ((rmD S.rooms (cnD S.cans i).room.toNat).allows = false ∨ (rmD S.rooms (cnD S.cans i).room.toNat).most < amtK S.cans (firstW S.cans) (cnD S.cans i).room (i + 1)))
/-- How far one must be from so much nitrate, by the first k steps. -/
def metK (l : List Stp) (a : Int) : Nat → Int
  | 0 => 0
  | k + 1 => if (stD l k).over < a then (stD l k).metres else metK l a k
def amt (S : Site) (wh : List Int) (r : Nat) : Int := amtK S.cans wh (r : Int) S.cans.length
def met (S : Site) (a : Int) : Int := metK S.steps a S.steps.length
def risk (S : Site) (wh : List Int) (a b : Nat) : Bool := decide (0 < amt S wh a) && (decide (0 < amt S wh b) || (rmD S.rooms b).people)
def far (p q : Rm) : Int := (p.x - q.x) * (p.x - q.x) + (p.y - q.y) * (p.y - q.y)
def nearB (S : Site) (wh : List Int) (a b : Nat) : Bool :=
  (risk S wh a b || risk S wh b a) && decide (far (rmD S.rooms a) (rmD S.rooms b) < max (met S (amt S wh a)) (met S (amt S wh b)) * max (met S (amt S wh a)) (met S (amt S wh b)))
def nearRow (S : Site) (wh : List Int) (a : Nat) : Nat → List Nr
  | 0 => []
  | k + 1 => nearRow S wh a k ++ if nearB S wh a (a + 1 + k) then [⟨(a : Int), ((a + 1 + k : Nat) : Int)⟩] else []
def nearK (S : Site) (wh : List Int) : Nat → List Nr
  | 0 => []
  | a + 1 => nearK S wh a ++ nearRow S wh a (S.rooms.length - (a + 1))
def nears (S : Site) (wh : List Int) : List Nr := nearK S wh S.rooms.length
def fstR (S : Site) : Nat := firstN (fun i => rmE S.rooms i != 0) S.rooms.length
def fstC (S : Site) : Nat := firstN (fun i => cnE S i != 0) S.cans.length
def fstS (S : Site) : Nat := firstN (fun i => stE S.steps i != 0) S.steps.length
def fstO (S : Site) : Nat := firstN (overB S) S.cans.length
def checkV (S : Site) : Int × Int × Int :=
  if (inB (S.rooms.length : Int) 1 12 && decide (S.cans.length ≤ 30) && decide (S.steps.length ≤ 8)) = false then (1, 0, 3)
  else if fstR S < S.rooms.length then (2, (fstR S : Nat), rmE S.rooms (fstR S))
  else if fstC S < S.cans.length then (3, (fstC S : Nat), cnE S (fstC S))
  else if (inB S.rlo 1 100 && inB S.rhi 1 100) = false then (4, 0, 7)
  else if S.rhi < S.rlo then (4, 0, 2)
  else if fstS S < S.steps.length then (5, (fstS S : Nat), stE S.steps (fstS S))
  else if fstO S < S.cans.length then (6, (fstO S : Nat), 9)
  else if nears S (firstW S.cans) ≠ [] then (7, 0, 9)
  else (0, 0, 0)
/-! Air. -/
def tabD : List Int := [450, 700, 1070, 1600, 2360, 3410, 4850, 6800, 9400, 12830, 17300, 23050, 30400, 39600, 51200, 65400, 83000, 104300, 130200]
def vap (t : Int) : Int :=
  if (t + 300) % 50 = 0 then intD tabD ((t + 300) / 50).toNat
  else intD tabD ((t + 300) / 50).toNat + (intD tabD (((t + 300) / 50).toNat + 1) - intD tabD ((t + 300) / 50).toNat) * ((t + 300) % 50) / 50
def wet (own t d : Int) : Bool := decide (1000 * vap own < d * vap t)
def dewP (t d : Int) : Int := -300 + (firstN (fun k => !wet (-300 + (k : Int)) t d) (t + 300).toNat : Nat)
def mayS (t : Span) (r : Rm) : Bool := wet t.lo r.thi r.dhi
def spanE (t : Span) : Int := if (inB t.lo (-300) 600 && inB t.hi (-300) 600) = false then 7 else if t.hi < t.lo then 2 else 0
def warmV (S : Site) (r : Rm) (t : Span) : Span :=
  ⟨t.lo + (r.tlo - t.lo) * (if r.tlo < t.lo then S.rhi else S.rlo) / 100, t.hi - (t.hi - r.thi) * (if t.hi < r.thi then S.rhi else S.rlo) / 100⟩
def warmN (S : Site) (r : Rm) : Nat → Span → Span
  | 0, t => t
  | n + 1, t => warmN S r n (warmV S r t)
def waitF (S : Site) (r nx : Rm) : Nat → Nat → Span → Option (Nat × Span)
  | 0, _, _ => none
  | f + 1, n, t => if mayS t nx then waitF S r nx f (n + 1) (warmV S r t) else some (n, t)
def waitV (S : Site) (r nx : Nat) (t : Span) : Option (Nat × Span) := waitF S (rmD S.rooms r) (rmD S.rooms nx) 501 0 t
end Go.Proofs.YtkidicfpfknfoaaDoor.D
