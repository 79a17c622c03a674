/-
  Plain: moves, climates, ways.
-/
import Derived.Test.YtkidicfpfknfoaaDoorVPlAir
namespace Go.Proofs.YtkidicfpfknfoaaDoor.D
set_option linter.unusedVariables false
set_option linter.unusedSimpArgs false
/-- The room of a can in an hour, by the first k moves that are kept. -/
def atK (S : Site) (M : List Mv) (can : Nat) (h : Int) : Nat → Int
  | 0 => (cnD S.cans can).room
  | k + 1 => if (mvD M k).can = (can : Int) ∧ (mvD M k).hour ≤ h then (mvD M k).to_ else atK S M can h k
def atV (S : Site) (M : List Mv) (can : Nat) (h : Int) : Int := atK S M can h M.length
def whereV (S : Site) (M : List Mv) (h : Int) : List Int := (List.range S.cans.length).map fun i => atV S M i h
def rmAt (S : Site) (M : List Mv) (can : Nat) (h : Int) : Rm := rmD S.rooms (atV S M can h).toNat
def ownT (S : Site) (M : List Mv) (can : Nat) : Nat → Span
  | 0 => ⟨(rmD S.rooms (cnD S.cans can).room.toNat).tlo, (rmD S.rooms (cnD S.cans can).room.toNat).thi⟩
  | h + 1 => warmV S (rmAt S M can (h : Int)) (ownT S M can h)
def moveW (S : Site) (M : List Mv) (m : Mv) : List Int := (whereV S M m.hour).set m.can.toNat m.to_
def whyV (S : Site) (M : List Mv) (m : Mv) : Int :=
  if 0 < M.length ∧ m.hour < (mvD M (M.length - 1)).hour then 130
  else if atV S M m.can.toNat m.hour = m.to_ then 131
  else if (cnD S.cans m.can.toNat).base = 1 ∧ (rmD S.rooms m.to_.toNat).allows = false then 132
  else if (cnD S.cans m.can.toNat).base = 1 ∧ (rmD S.rooms m.to_.toNat).most < amt S (moveW S M m) m.to_.toNat then 133
  else if nears S (moveW S M m) ≠ [] then 134
  else if mayS (ownT S M m.can.toNat m.hour.toNat) (rmD S.rooms m.to_.toNat) then 135 else 0
def playK (S : Site) (L : List Mv) : Nat → List Mv × List Int
  | 0 => ([], [])
  | k + 1 => (if whyV S (playK S L k).1 (mvD L k) = 0 then (playK S L k).1 ++ [mvD L k] else (playK S L k).1, (playK S L k).2 ++ [whyV S (playK S L k).1 (mvD L k)])
def playV (S : Site) (L : List Mv) : List Mv × List Int := playK S L L.length
def mvE (S : Site) (m : Mv) : Int := if inB m.hour 0 2400 = false then 7 else if (inB m.can 0 (S.cans.length - 1) && inB m.to_ 0 (S.rooms.length - 1)) = false then 4 else 0
def fstM (S : Site) (L : List Mv) : Nat := firstN (fun i => mvE S (mvD L i) != 0) L.length
def movedE (S : Site) (L : List Mv) : Int :=
  if (checkV S).2.2 ≠ 0 then (checkV S).2.2 else if 60 < L.length then 3 else if fstM S L < L.length then mvE S (mvD L (fstM S L)) else 0
/-- A day's climate, behind j hours of it. -/
def dayJ (S : Site) (M : List Mv) (can d : Nat) : Nat → Day
  | 0 => ⟨(ownT S M can (d * 24)).lo, (ownT S M can (d * 24)).hi, (rmAt S M can ((d * 24 : Nat) : Int)).dlo, (rmAt S M can ((d * 24 : Nat) : Int)).dhi⟩
  | j + 1 => ⟨min (dayJ S M can d j).tlo (ownT S M can (d * 24 + j + 1)).lo, max (dayJ S M can d j).thi (ownT S M can (d * 24 + j + 1)).hi,
      min (dayJ S M can d j).dlo (rmAt S M can ((d * 24 + j : Nat) : Int)).dlo, max (dayJ S M can d j).dhi (rmAt S M can ((d * 24 + j : Nat) : Int)).dhi⟩
def climV (S : Site) (M : List Mv) (can days : Nat) : List Day := (List.range days).map fun d => dayJ S M can d 24
def playE (S : Site) (L : List Mv) (can : Int) : Int := if movedE S L ≠ 0 then movedE S L else if inB can 0 (S.cans.length - 1) = false then 4 else 0
def tempE (S : Site) (L : List Mv) (can hour : Int) : Int := if playE S L can ≠ 0 then playE S L can else if inB hour 0 2400 = false then 7 else 0
def whereE (S : Site) (L : List Mv) (hour : Int) : Int := if movedE S L ≠ 0 then movedE S L else if inB hour 0 2400 = false then 7 else 0
def climE (S : Site) (L : List Mv) (can days : Int) : Int := if playE S L can ≠ 0 then playE S L can else if inB days 0 100 = false then 7 else 0
/-! Ways. -/
def natD (l : List Nat) (i : Nat) : Nat := l.getD i 0
def barred (S : Site) (base : Int) (r : Nat) : Bool := decide (base = 1) && !(rmD S.rooms r).allows
def dupB (L : List Nat) (i : Nat) : Bool := anyF (fun k => decide (natD L k = natD L i)) i
def wayG (S : Site) (base : Int) (t0 : Span) (L : List Nat) : Nat → Option (List Sty × Int × Span)
  | 0 => some ([], 0, t0)
  | i + 1 => match wayG S base t0 L i with
    | none => none
    | some (st, h, t) =>
      if dupB L i then none else if (decide (0 < i) && barred S base (natD L i)) = true then none
      else if i + 1 < L.length then
        match waitV S (natD L i) (natD L (i + 1)) t with
        | none => none
        | some (n, u) => some (st ++ [⟨(natD L i : Int), (n : Int)⟩], h + n, u)
      else some (st ++ [⟨(natD L i : Int), 0⟩], h, t)
def wayV (S : Site) (base : Int) (t0 : Span) (L : List Nat) : Option (List Sty × Int) :=
  if L.length < 1 ∨ 5 < L.length then none else (wayG S base t0 L L.length).map fun x => (x.1, x.2.1)
def exts (n : Nat) (l : List Nat) : List (List Nat) := ((List.range n).filter fun r => !l.contains r).map fun r => l ++ [r]
def endsB (to : Nat) (l : List Nat) : Bool := decide (natD l (l.length - 1) = to)
/-- All ways, those with fewer rooms first. -/
def waysV (n to : Nat) : Nat → List (List Nat) → List (List Nat)
  | 0, _ => []
  | m + 1, b => b.filter (endsB to) ++ waysV n to m ((b.filter fun l => !endsB to l).flatMap (exts n))
def better (st : Int × List Sty) (w : Option (List Sty × Int)) : Int × List Sty :=
  match w with
  | none => st
  | some (l, h) => if st.1 < 0 ∨ h < st.1 then (h, l) else st
def bestR (S : Site) (base : Int) (t : Span) (fr to : Nat) : Int × List Sty := ((waysV S.rooms.length to 5 [[fr]]).map (wayV S base t)).foldl better (-1, [])
def srch (S : Site) (base : Int) (to : Nat) : Nat → List Nat → List Sty → Span → Nat → Int → Int × List Sty → Int × List Sty
  | 0, _, now, _, room, sum, st => if 0 ≤ st.1 ∧ st.1 ≤ sum then st else if room = to then (sum, now ++ [⟨(to : Int), 0⟩]) else st
  | m + 1, been, now, t, room, sum, st =>
    if 0 ≤ st.1 ∧ st.1 ≤ sum then st else if room = to then st
    else (List.range S.rooms.length).foldl (fun st nx =>
      if ((room :: been).contains nx || barred S base nx) = true then st
      else match waitV S room nx t with
        | none => st
        | some (n, u) => srch S base to m (room :: been) (now ++ [⟨(room : Int), (n : Int)⟩]) u nx (sum + n) st) st
def bestP (S : Site) (base : Int) (t : Span) (fr to : Nat) : Int × List Sty := (List.range 5).foldl (fun st k => srch S base to k [] [] t fr 0 st) (-1, [])
def pathE (S : Site) (base : Int) (t : Span) (fr to : Int) : Int :=
  if (checkV S).2.2 ≠ 0 then (checkV S).2.2 else if inB base 1 3 = false then 2 else if spanE t ≠ 0 then spanE t
  else if (inB fr 0 (S.rooms.length - 1) && inB to 0 (S.rooms.length - 1)) = false then 4 else 0
end Go.Proofs.YtkidicfpfknfoaaDoor.D
