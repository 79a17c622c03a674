/-
  Plain data of the vault chapter, and what its functions compute, plain.
  Plain: air and temperatures.
  Plain: moves, climates, ways.
  Plain: what holds of the moves that are kept.
  Plain: an hour in a room keeps an order of spans; a can's own temperature stays within.
  Plain: sites that are valid.
  Plain: the rooms of a can, hour by hour, by the moves taken one behind the other.
  Plain: names, by their parts and byte by byte.
  VaultNarrow, plain: a site whose cans are not looked at, and one of whose rooms is narrower.
-/
import Derived.Lib.SlTrimSet
namespace Go.Proofs.YtfpaihjcbpaneaaGreatDoor.D
set_option linter.unusedVariables false
set_option linter.unusedSimpArgs false
def inB (n lo hi : Int) : Bool := decide (lo ≤ n ∧ n ≤ hi)
def intD (l : List Int) (i : Nat) : Int := l.getD i 0
structure Rm where
  name : ByteArray
  tlo : Int
  thi : Int
  dlo : Int
  dhi : Int
  people : Bool
  allows : Bool
  most : Int
  x : Int
  y : Int
instance : Inhabited Rm := ⟨⟨ByteArray.empty, 0, 0, 0, 0, false, false, 0, 0, 0⟩⟩
structure Cn where
  name : ByteArray
  base : Int
  frames : Int
  room : Int
instance : Inhabited Cn := ⟨⟨ByteArray.empty, 0, 0, 0⟩⟩
structure Stp where
  over : Int
  metres : Int
  deriving DecidableEq, Inhabited
structure Span where
  lo : Int
  hi : Int
  deriving DecidableEq, Inhabited
structure Site where
  rooms : List Rm
  cans : List Cn
  rlo : Int
  rhi : Int
  steps : List Stp
structure Mv where
  hour : Int
  can : Int
  to_ : Int
  deriving DecidableEq, Inhabited
structure Sty where
  room : Int
  hours : Int
  deriving DecidableEq, Inhabited
structure Nr where
  a : Int
  b : Int
  deriving DecidableEq, Inhabited
structure Day where
  tlo : Int
  thi : Int
  dlo : Int
  dhi : Int
  deriving DecidableEq, Inhabited
def rmD (l : List Rm) (i : Nat) : Rm := l.getD i default
def cnD (l : List Cn) (i : Nat) : Cn := l.getD i default
def stD (l : List Stp) (i : Nat) : Stp := l.getD i default
def mvD (l : List Mv) (i : Nat) : Mv := l.getD i default
def syD (l : List Sty) (i : Nat) : Sty := l.getD i default
def nrD (l : List Nr) (i : Nat) : Nr := l.getD i default
def dyD (l : List Day) (i : Nat) : Day := l.getD i default
def outB (n lo hi : Int) : Bool := decide (n < lo ∨ hi < n)
theorem outB_in (n lo hi : Int) : outB n lo hi = !inB n lo hi := by
  unfold outB inB
  by_cases h : lo ≤ n ∧ n ≤ hi
  · rw [decide_eq_true h, decide_eq_false (by omega)]; rfl
  · rw [decide_eq_false h, decide_eq_true (by omega)]; rfl
def sameS (a b : ByteArray) : Bool := a.data.toList == b.data.toList
theorem sameS_iff {a b : ByteArray} : sameS a b = true ↔ a = b := by
  unfold sameS
  rw [beq_iff_eq]
  constructor
  · intro h
    have : a.data = b.data := Array.ext' h
    cases a; cases b; simp_all
  · rintro rfl; rfl
def firstN (p : Nat → Bool) : Nat → Nat
  | 0 => 0
  | n + 1 => if firstN p n < n then firstN p n else if p n then n else n + 1
theorem firstN_le (p : Nat → Bool) : ∀ n, firstN p n ≤ n
  | 0 => Nat.le_refl _
  | n + 1 => by
    have := firstN_le p n
    rw [firstN]; split
    · omega
    · split <;> omega
theorem firstN_none {p : Nat → Bool} : ∀ {n : Nat}, (∀ i, i < n → p i = false) → firstN p n = n
  | 0, _ => rfl
  | n + 1, h => by
    have h1 := firstN_none (p := p) (n := n) (fun i hi => h i (by omega))
    rw [firstN, if_neg (by omega), if_neg (by rw [h n (by omega)]; simp)]
theorem firstN_at {p : Nat → Bool} {k : Nat} (h : ∀ i, i < k → p i = false) (hk : p k = true) : ∀ {n : Nat}, k < n → firstN p n = k
  | 0, h0 => absurd h0 (Nat.not_lt_zero k)
  | n + 1, h0 => by
    by_cases he : k = n
    · subst he
      have h1 := firstN_none (p := p) (n := k) h
      rw [firstN, if_neg (by omega), if_pos hk]
    · have h1 := firstN_at h hk (n := n) (by omega)
      rw [firstN, if_pos (by omega), h1]
theorem firstN_spec {p : Nat → Bool} : ∀ {n : Nat}, (∀ i, i < firstN p n → p i = false) ∧ (firstN p n < n → p (firstN p n) = true)
  | 0 => ⟨fun i hi => absurd hi (Nat.not_lt_zero i), fun h => absurd h (Nat.not_lt_zero _)⟩
  | n + 1 => by
    obtain ⟨h1, h2⟩ := firstN_spec (p := p) (n := n)
    have hl := firstN_le p n
    rw [firstN]
    split
    · rename_i h; exact ⟨h1, fun _ => h2 h⟩
    · rename_i h
      have he : firstN p n = n := by omega
      rw [he] at h1
      split
      · rename_i h3; exact ⟨h1, fun _ => h3⟩
      · rename_i h3
        refine ⟨fun i hi => ?_, fun h => absurd h (Nat.lt_irrefl _)⟩
        rcases Nat.lt_or_ge i n with h4 | h4
        · exact h1 i h4
        · obtain rfl : i = n := by omega
          simpa using h3
def idxF (p : Nat → Bool) (n : Nat) : Int := if firstN p n < n then (firstN p n : Int) else -1
def anyF (p : Nat → Bool) (n : Nat) : Bool := decide (firstN p n < n)
theorem anyF_succ (p : Nat → Bool) (n : Nat) : anyF p (n + 1) = (anyF p n || p n) := by
  unfold anyF
  have hl := firstN_le p n
  rw [firstN]
  by_cases h : firstN p n < n
  · rw [if_pos h, decide_eq_true h, decide_eq_true (by omega)]; rfl
  · rw [if_neg h, decide_eq_false h]
    cases hp : p n
    · rw [if_neg (by simp), decide_eq_false (by omega)]; rfl
    · rw [if_pos rfl, decide_eq_true (by omega)]; rfl
/-! Names. -/
def lowB (c : UInt8) : Bool := inB (c.toNat : Int) 97 122
def digB (c : UInt8) : Bool := inB (c.toNat : Int) 48 57
def nmAt (l : List UInt8) (i : Nat) : Bool := (lowB (l.getD i 0) || digB (l.getD i 0)) || ((l.getD i 0 == 45 && l.getD (i - 1) 0 != 45) && decide (i + 1 ≠ l.length))
def okName (s : ByteArray) : Bool := inB (s.size : Int) 1 24 && lowB (s.data.toList.getD 0 0) && !anyF (fun i => !nmAt s.data.toList i) s.size
/-! Sites. -/
def roomE (r : Rm) : Int :=
  if (inB r.tlo (-300) 600 && inB r.thi (-300) 600 && inB r.dlo 0 1000 && inB r.dhi 0 1000 && inB r.most 0 10000000 && inB r.x 0 10000 && inB r.y 0 10000) = false then 7
  else if r.thi < r.tlo ∨ r.dhi < r.dlo then 2 else 0
def twiceR (l : List Rm) (i : Nat) : Bool := anyF (fun k => sameS (rmD l k).name (rmD l i).name) i
def twiceC (l : List Cn) (i : Nat) : Bool := anyF (fun k => sameS (cnD l k).name (cnD l i).name) i
def rmE (l : List Rm) (i : Nat) : Int := if okName (rmD l i).name = false then 6 else if twiceR l i then 5 else roomE (rmD l i)
def canE (n : Nat) (c : Cn) : Int := if inB c.base 1 3 = false then 2 else if inB c.frames 1 200000 = false then 7 else if inB c.room 0 (n - 1) = false then 4 else 0
def cnE (S : Site) (i : Nat) : Int := if okName (cnD S.cans i).name = false then 6 else if twiceC S.cans i then 5 else canE S.rooms.length (cnD S.cans i)
def stE (l : List Stp) (i : Nat) : Int :=
  if (inB (stD l i).over 0 10000000 && inB (stD l i).metres 0 10000) = false then 7
  else if 0 < i ∧ ((stD l i).over ≤ (stD l (i - 1)).over ∨ (stD l i).metres < (stD l (i - 1)).metres) then 2 else 0
def firstW (l : List Cn) : List Int := l.map (·.room)
/-- The nitrate in a room, of the first k cans. -/
def amtK (C : List Cn) (wh : List Int) (r : Int) : Nat → Int
  | 0 => 0
  | k + 1 => amtK C wh r k + if intD wh k = r ∧ (cnD C k).base = 1 then (cnD C k).frames else 0
def overB (S : Site) (i : Nat) : Bool :=
  decide ((cnD S.cans i).base = 1 ∧ ((rmD S.rooms (cnD S.cans i).room.toNat).allows = false ∨ (rmD S.rooms (cnD S.cans i).room.toNat).most < amtK S.cans (firstW S.cans) (cnD S.cans i).room (i + 1)))
/-- How far one must be from so much nitrate, by the first k steps. -/
def metK (l : List Stp) (a : Int) : Nat → Int
  | 0 => 0
  | k + 1 => if (stD l k).over < a then (stD l k).metres else metK l a k
def amt (S : Site) (wh : List Int) (r : Nat) : Int := amtK S.cans wh (r : Int) S.cans.length
def met (S : Site) (a : Int) : Int := metK S.steps a S.steps.length
def risk (S : Site) (wh : List Int) (a b : Nat) : Bool := decide (0 < amt S wh a) && (decide (0 < amt S wh b) || (rmD S.rooms b).people)
def far (p q : Rm) : Int := (p.x - q.x) * (p.x - q.x) + (p.y - q.y) * (p.y - q.y)
def nearB (S : Site) (wh : List Int) (a b : Nat) : Bool :=
  (risk S wh a b || risk S wh b a) && decide (far (rmD S.rooms a) (rmD S.rooms b) < max (met S (amt S wh a)) (met S (amt S wh b)) * max (met S (amt S wh a)) (met S (amt S wh b)))
def nearRow (S : Site) (wh : List Int) (a : Nat) : Nat → List Nr
  | 0 => []
  | k + 1 => nearRow S wh a k ++ if nearB S wh a (a + 1 + k) then [⟨(a : Int), ((a + 1 + k : Nat) : Int)⟩] else []
def nearK (S : Site) (wh : List Int) : Nat → List Nr
  | 0 => []
  | a + 1 => nearK S wh a ++ nearRow S wh a (S.rooms.length - (a + 1))
def nears (S : Site) (wh : List Int) : List Nr := nearK S wh S.rooms.length
def fstR (S : Site) : Nat := firstN (fun i => rmE S.rooms i != 0) S.rooms.length
def fstC (S : Site) : Nat := firstN (fun i => cnE S i != 0) S.cans.length
def fstS (S : Site) : Nat := firstN (fun i => stE S.steps i != 0) S.steps.length
def fstO (S : Site) : Nat := firstN (overB S) S.cans.length
def checkV (S : Site) : Int × Int × Int :=
  if (inB (S.rooms.length : Int) 1 12 && decide (S.cans.length ≤ 30) && decide (S.steps.length ≤ 8)) = false then (1, 0, 3)
  else if fstR S < S.rooms.length then (2, (fstR S : Nat), rmE S.rooms (fstR S))
  else if fstC S < S.cans.length then (3, (fstC S : Nat), cnE S (fstC S))
  else if (inB S.rlo 1 100 && inB S.rhi 1 100) = false then (4, 0, 7)
  else if S.rhi < S.rlo then (4, 0, 2)
  else if fstS S < S.steps.length then (5, (fstS S : Nat), stE S.steps (fstS S))
  else if fstO S < S.cans.length then (6, (fstO S : Nat), 9)
  else if nears S (firstW S.cans) ≠ [] then (7, 0, 9)
  else (0, 0, 0)
/-! Air. -/
def tabD : List Int := [450, 700, 1070, 1600, 2360, 3410, 4850, 6800, 9400, 12830, 17300, 23050, 30400, 39600, 51200, 65400, 83000, 104300, 130200]
def vap (t : Int) : Int :=
  if (t + 300) % 50 = 0 then intD tabD ((t + 300) / 50).toNat
  else intD tabD ((t + 300) / 50).toNat + (intD tabD (((t + 300) / 50).toNat + 1) - intD tabD ((t + 300) / 50).toNat) * ((t + 300) % 50) / 50
def wet (own t d : Int) : Bool := decide (1000 * vap own < d * vap t)
def dewP (t d : Int) : Int := -300 + (firstN (fun k => !wet (-300 + (k : Int)) t d) (t + 300).toNat : Nat)
def mayS (t : Span) (r : Rm) : Bool := wet t.lo r.thi r.dhi
def spanE (t : Span) : Int := if (inB t.lo (-300) 600 && inB t.hi (-300) 600) = false then 7 else if t.hi < t.lo then 2 else 0
def warmV (S : Site) (r : Rm) (t : Span) : Span :=
  ⟨t.lo + (r.tlo - t.lo) * (if r.tlo < t.lo then S.rhi else S.rlo) / 100, t.hi - (t.hi - r.thi) * (if t.hi < r.thi then S.rhi else S.rlo) / 100⟩
def warmN (S : Site) (r : Rm) : Nat → Span → Span
  | 0, t => t
  | n + 1, t => warmN S r n (warmV S r t)
def waitF (S : Site) (r nx : Rm) : Nat → Nat → Span → Option (Nat × Span)
  | 0, _, _ => none
  | f + 1, n, t => if mayS t nx then waitF S r nx f (n + 1) (warmV S r t) else some (n, t)
def waitV (S : Site) (r nx : Nat) (t : Span) : Option (Nat × Span) := waitF S (rmD S.rooms r) (rmD S.rooms nx) 501 0 t
end Go.Proofs.YtfpaihjcbpaneaaGreatDoor.D
namespace Go.Proofs.YtfpaihjcbpaneaaGreatDoor.D
set_option linter.unusedVariables false
set_option linter.unusedSimpArgs false
theorem inB_iff {n lo hi : Int} : inB n lo hi = true ↔ lo ≤ n ∧ n ≤ hi := by unfold inB; exact decide_eq_true_iff
theorem vap_step : ∀ k : Fin 900, vap (-300 + (k.val : Int)) < vap (-300 + (k.val : Int) + 1) := by decide +kernel
theorem vap_lt {t : Int} (h1 : -300 ≤ t) (h2 : t < 600) : vap t < vap (t + 1) := by
  have := vap_step ⟨(t + 300).toNat, by omega⟩
  have e : (-300 : Int) + (((t + 300).toNat : Nat) : Int) = t := by omega
  simp only [e] at this
  exact this
theorem vap_mono {a b : Int} (h1 : -300 ≤ a) (h2 : a ≤ b) (h3 : b ≤ 600) : vap a ≤ vap b := by
  obtain ⟨n, rfl⟩ : ∃ n : Nat, b = a + n := ⟨(b - a).toNat, by omega⟩
  clear h2
  induction n with
  | zero => simp
  | succ n ih =>
    have := ih (by omega)
    have h := vap_lt (t := a + n) (by omega) (by omega)
    have e : a + ((n + 1 : Nat) : Int) = a + n + 1 := by omega
    rw [e]; omega
theorem vap_lt' {a b : Int} (h1 : -300 ≤ a) (h2 : a < b) (h3 : b ≤ 600) : vap a < vap b := by
  have h := vap_lt (t := a) h1 (by omega)
  have := vap_mono (a := a + 1) (b := b) (by omega) (by omega) h3
  omega
theorem vap_in {t : Int} (h1 : -300 ≤ t) (h2 : t ≤ 600) : 450 ≤ vap t ∧ vap t ≤ 130200 := by
  have a := vap_mono (a := -300) (b := t) (by omega) h1 h2
  have b := vap_mono (a := t) (b := 600) h1 h2 (by omega)
  have e1 : vap (-300) = 450 := by decide +kernel
  have e2 : vap 600 = 130200 := by decide +kernel
  omega
theorem wet_mono {o o' t t' d d' : Int} (h1 : -300 ≤ o') (h2 : o' ≤ o) (h3 : o ≤ 600) (h4 : -300 ≤ t) (h5 : t ≤ t') (h6 : t' ≤ 600) (h7 : 0 ≤ d) (h8 : d ≤ d') (h : wet o t d = true) : wet o' t' d' = true := by
  unfold wet at *
  have h := of_decide_eq_true h
  have a := vap_mono h1 h2 h3
  have b := vap_mono h4 h5 h6
  have c := (vap_in h4 (by omega)).1
  have e : d * vap t ≤ d' * vap t' := Int.mul_le_mul h8 b (by omega) (by omega)
  exact decide_eq_true (by omega)
theorem wet_own {t d : Int} (h1 : -300 ≤ t) (h2 : t ≤ 600) (h3 : d ≤ 1000) : wet t t d = false := by
  unfold wet
  have c := (vap_in h1 h2).1
  have e : d * vap t ≤ 1000 * vap t := Int.mul_le_mul_of_nonneg_right h3 (by omega)
  exact decide_eq_false (by omega)
/-- What part of a difference: between it and 0. -/
theorem share_pos {n r : Int} (h : 0 ≤ n) (h1 : 0 ≤ r) (h2 : r ≤ 100) : 0 ≤ n * r / 100 ∧ n * r / 100 ≤ n := by
  have a : n * r ≤ n * 100 := Int.mul_le_mul_of_nonneg_left h2 h
  have b : 0 ≤ n * r := Int.mul_nonneg h h1
  omega
theorem share_neg {n r : Int} (h : n ≤ 0) (h1 : 0 ≤ r) (h2 : r ≤ 100) : n ≤ n * r / 100 ∧ n * r / 100 ≤ 0 := by
  have a : n * 100 ≤ n * r := Int.mul_le_mul_of_nonpos_left h h2
  have b : n * r ≤ 0 := Int.mul_nonpos_of_nonpos_of_nonneg h h1
  omega
theorem mul_in {n r : Int} (h : -900 ≤ n ∧ n ≤ 900) (h1 : 0 ≤ r) (h2 : r ≤ 100) : -90000 ≤ n * r ∧ n * r ≤ 90000 := by
  rcases Int.le_total 0 n with h0 | h0
  · have a : n * r ≤ n * 100 := Int.mul_le_mul_of_nonneg_left h2 h0
    have b : 0 ≤ n * r := Int.mul_nonneg h0 h1
    omega
  · have a : n * 100 ≤ n * r := Int.mul_le_mul_of_nonpos_left h0 h2
    have b : n * r ≤ 0 := Int.mul_nonpos_of_nonpos_of_nonneg h0 h1
    omega
/-- A span of temperatures. -/
def TIn (t : Span) : Prop := -300 ≤ t.lo ∧ t.lo ≤ 600 ∧ -300 ≤ t.hi ∧ t.hi ≤ 600
def RIn (r : Rm) : Prop := -300 ≤ r.tlo ∧ r.tlo ≤ 600 ∧ -300 ≤ r.thi ∧ r.thi ≤ 600 ∧ 0 ≤ r.dlo ∧ r.dlo ≤ 1000 ∧ 0 ≤ r.dhi ∧ r.dhi ≤ 1000
def RateIn (S : Site) : Prop := 1 ≤ S.rlo ∧ S.rlo ≤ 100 ∧ 1 ≤ S.rhi ∧ S.rhi ≤ 100
theorem warm_in {S : Site} {r : Rm} {t : Span} (hS : RateIn S) (hr : RIn r) (ht : TIn t) : TIn (warmV S r t) := by
  obtain ⟨s1, s2, s3, s4⟩ := hS
  obtain ⟨r1, r2, r3, r4, -, -, -, -⟩ := hr
  obtain ⟨t1, t2, t3, t4⟩ := ht
  unfold warmV TIn
  simp only
  have aux : ∀ (a b : Int) (c : Prop) [Decidable c], -300 ≤ a → a ≤ 600 → -300 ≤ b → b ≤ 600 → -300 ≤ a + (b - a) * (if c then S.rhi else S.rlo) / 100 ∧ a + (b - a) * (if c then S.rhi else S.rlo) / 100 ≤ 600 := by
    intro a b c _ a1 a2 b1 b2
    obtain ⟨r, hr, h1, h2⟩ : ∃ r, r = (if c then S.rhi else S.rlo) ∧ 0 ≤ r ∧ r ≤ 100 := ⟨_, rfl, by split <;> omega, by split <;> omega⟩
    rw [← hr]
    rcases Int.le_total 0 (b - a) with h | h
    · have := share_pos h h1 h2; omega
    · have := share_neg h h1 h2; omega
  have aux2 : ∀ (a b : Int) (c : Prop) [Decidable c], -300 ≤ a → a ≤ 600 → -300 ≤ b → b ≤ 600 → -300 ≤ a - (a - b) * (if c then S.rhi else S.rlo) / 100 ∧ a - (a - b) * (if c then S.rhi else S.rlo) / 100 ≤ 600 := by
    intro a b c _ a1 a2 b1 b2
    obtain ⟨r, hr, h1, h2⟩ : ∃ r, r = (if c then S.rhi else S.rlo) ∧ 0 ≤ r ∧ r ≤ 100 := ⟨_, rfl, by split <;> omega, by split <;> omega⟩
    rw [← hr]
    rcases Int.le_total 0 (a - b) with h | h
    · have := share_pos h h1 h2; omega
    · have := share_neg h h1 h2; omega
  have p := aux t.lo r.tlo (r.tlo < t.lo) t1 t2 r1 r2
  have q := aux2 t.hi r.thi (t.hi < r.thi) t3 t4 r3 r4
  exact ⟨p.1, p.2, q.1, q.2⟩
theorem warmN_in {S : Site} {r : Rm} (hS : RateIn S) (hr : RIn r) : ∀ (n : Nat) {t : Span}, TIn t → TIn (warmN S r n t)
  | 0, _, h => h
  | n + 1, _, h => warmN_in hS hr n (warm_in hS hr h)
theorem warmN_succ {S : Site} {r : Rm} : ∀ (n : Nat) (t : Span), warmN S r (n + 1) t = warmV S r (warmN S r n t)
  | 0, _ => rfl
  | n + 1, t => by rw [warmN, warmN_succ n]; rfl
theorem waitF_in {S : Site} {r nx : Rm} (hS : RateIn S) (hr : RIn r) : ∀ (f n : Nat) {t : Span} {m : Nat} {u : Span}, TIn t → waitF S r nx f n t = some (m, u) → TIn u ∧ n ≤ m ∧ m < n + f ∧ mayS u nx = false
  | 0, _, _, _, _, _, h => by cases h
  | f + 1, n, t, m, u, ht, h => by
    rw [waitF] at h
    split at h
    · have := waitF_in hS hr f (n + 1) (warm_in hS hr ht) h
      exact ⟨this.1, by omega, by omega, this.2.2.2⟩
    · rename_i hm
      obtain ⟨rfl, rfl⟩ : n = m ∧ t = u := by simpa using h
      exact ⟨ht, by omega, by omega, by simpa using hm⟩
/-! The dew point. -/
theorem wet_turn {t d : Int} (h1 : -300 ≤ t) (h2 : t ≤ 600) {a b : Nat} (hab : a ≤ b) (hb : -300 + (b : Int) ≤ 600) (h : wet (-300 + (a : Int)) t d = false) : wet (-300 + (b : Int)) t d = false := by
  unfold wet at *
  have h := of_decide_eq_false h
  have := vap_mono (a := -300 + (a : Int)) (b := -300 + (b : Int)) (by omega) (by omega) hb
  exact decide_eq_false (by omega)
theorem firstN_turns {p : Nat → Bool} {n k : Nat} (hk : k ≤ n) (h0 : 0 < k → p (k - 1) = false) (h1 : k < n → p k = true) (hm : ∀ a b, a ≤ b → b < n → p a = true → p b = true) : firstN p n = k := by
  have hall : ∀ i, i < k → p i = false := fun i hi => by
    cases hp : p i
    · rfl
    · have := hm i (k - 1) (by omega) (by omega) hp
      rw [h0 (by omega)] at this; cases this
  rcases Nat.lt_or_ge k n with h | h
  · exact firstN_at hall (h1 h) h
  · obtain rfl : k = n := by omega
    exact firstN_none hall
theorem dew_in {t d : Int} (h1 : -300 ≤ t) : -300 ≤ dewP t d ∧ dewP t d ≤ t := by
  unfold dewP
  have := firstN_le (fun k => !wet (-300 + (k : Int)) t d) (t + 300).toNat
  omega
/-- A can sweats just below the dew point. -/
theorem dew_iff {o t d : Int} (h1 : -300 ≤ t) (h2 : t ≤ 600) (h3 : -300 ≤ o) (h4 : o ≤ 600) (hd : d ≤ 1000) : wet o t d = decide (o < dewP t d) := by
  obtain ⟨k, hk⟩ : ∃ k, k = firstN (fun k => !wet (-300 + (k : Int)) t d) (t + 300).toNat := ⟨_, rfl⟩
  have hs := firstN_spec (p := fun k => !wet (-300 + (k : Int)) t d) (n := (t + 300).toNat)
  have hl := firstN_le (fun k => !wet (-300 + (k : Int)) t d) (t + 300).toNat
  have hdw : dewP t d = -300 + (k : Int) := by unfold dewP; rw [← hk]
  rw [← hk] at hs hl
  rw [hdw]
  by_cases h : o < -300 + (k : Int)
  · rw [decide_eq_true h]
    have := hs.1 (o + 300).toNat (by omega)
    have e : (-300 : Int) + (((o + 300).toNat : Nat) : Int) = o := by omega
    simp only [e] at this
    simpa using this
  · rw [decide_eq_false h]
    have hw : wet (-300 + (k : Int)) t d = false := by
      rcases Nat.lt_or_ge k (t + 300).toNat with h' | h'
      · simpa using hs.2 h'
      · have : (-300 : Int) + (k : Int) = t := by omega
        rw [this]; exact wet_own h1 h2 hd
    have := wet_turn h1 h2 (a := k) (b := (o + 300).toNat) (by omega) (by omega) hw
    have e : (-300 : Int) + (((o + 300).toNat : Nat) : Int) = o := by omega
    rw [e] at this
    exact this
theorem dew_mono {t t' d d' : Int} (h1 : -300 ≤ t) (h2 : t ≤ t') (h3 : t' ≤ 600) (h4 : 0 ≤ d) (h5 : d ≤ d') (h6 : d' ≤ 1000) : dewP t d ≤ dewP t' d' := by
  refine Int.not_lt.1 fun h => ?_
  have a := dew_in (t := t) (d := d) h1
  have b := dew_in (t := t') (d := d') (by omega)
  have e1 := dew_iff (o := dewP t' d') (t := t) (d := d) h1 (by omega) b.1 (by omega) (by omega)
  have e2 := dew_iff (o := dewP t' d') (t := t') (d := d') (by omega) h3 b.1 (by omega) h6
  rw [decide_eq_true h] at e1
  rw [decide_eq_false (Int.lt_irrefl _)] at e2
  rw [wet_mono b.1 (Int.le_refl _) (by omega) h1 h2 h3 h4 h5 e1] at e2
  cases e2
end Go.Proofs.YtfpaihjcbpaneaaGreatDoor.D
namespace Go.Proofs.YtfpaihjcbpaneaaGreatDoor.D
set_option linter.unusedVariables false
set_option linter.unusedSimpArgs false
/-- The room of a can in an hour, by the first k moves that are kept. -/
def atK (S : Site) (M : List Mv) (can : Nat) (h : Int) : Nat → Int
  | 0 => (cnD S.cans can).room
  | k + 1 => if (mvD M k).can = (can : Int) ∧ (mvD M k).hour ≤ h then (mvD M k).to_ else atK S M can h k
def atV (S : Site) (M : List Mv) (can : Nat) (h : Int) : Int := atK S M can h M.length
def whereV (S : Site) (M : List Mv) (h : Int) : List Int := (List.range S.cans.length).map fun i => atV S M i h
def rmAt (S : Site) (M : List Mv) (can : Nat) (h : Int) : Rm := rmD S.rooms (atV S M can h).toNat
def ownT (S : Site) (M : List Mv) (can : Nat) : Nat → Span
  | 0 => ⟨(rmD S.rooms (cnD S.cans can).room.toNat).tlo, (rmD S.rooms (cnD S.cans can).room.toNat).thi⟩
  | h + 1 => warmV S (rmAt S M can (h : Int)) (ownT S M can h)
def moveW (S : Site) (M : List Mv) (m : Mv) : List Int := (whereV S M m.hour).set m.can.toNat m.to_
def whyV (S : Site) (M : List Mv) (m : Mv) : Int :=
  if 0 < M.length ∧ m.hour < (mvD M (M.length - 1)).hour then 130
  else if atV S M m.can.toNat m.hour = m.to_ then 131
  else if (cnD S.cans m.can.toNat).base = 1 ∧ (rmD S.rooms m.to_.toNat).allows = false then 132
  else if (cnD S.cans m.can.toNat).base = 1 ∧ (rmD S.rooms m.to_.toNat).most < amt S (moveW S M m) m.to_.toNat then 133
  else if nears S (moveW S M m) ≠ [] then 134
  else if mayS (ownT S M m.can.toNat m.hour.toNat) (rmD S.rooms m.to_.toNat) then 135 else 0
def playK (S : Site) (L : List Mv) : Nat → List Mv × List Int
  | 0 => ([], [])
  | k + 1 => (if whyV S (playK S L k).1 (mvD L k) = 0 then (playK S L k).1 ++ [mvD L k] else (playK S L k).1, (playK S L k).2 ++ [whyV S (playK S L k).1 (mvD L k)])
def playV (S : Site) (L : List Mv) : List Mv × List Int := playK S L L.length
def mvE (S : Site) (m : Mv) : Int := if inB m.hour 0 2400 = false then 7 else if (inB m.can 0 (S.cans.length - 1) && inB m.to_ 0 (S.rooms.length - 1)) = false then 4 else 0
def fstM (S : Site) (L : List Mv) : Nat := firstN (fun i => mvE S (mvD L i) != 0) L.length
def movedE (S : Site) (L : List Mv) : Int :=
  if (checkV S).2.2 ≠ 0 then (checkV S).2.2 else if 60 < L.length then 3 else if fstM S L < L.length then mvE S (mvD L (fstM S L)) else 0
/-- A day's climate, behind j hours of it. -/
def dayJ (S : Site) (M : List Mv) (can d : Nat) : Nat → Day
  | 0 => ⟨(ownT S M can (d * 24)).lo, (ownT S M can (d * 24)).hi, (rmAt S M can ((d * 24 : Nat) : Int)).dlo, (rmAt S M can ((d * 24 : Nat) : Int)).dhi⟩
  | j + 1 => ⟨min (dayJ S M can d j).tlo (ownT S M can (d * 24 + j + 1)).lo, max (dayJ S M can d j).thi (ownT S M can (d * 24 + j + 1)).hi,
      min (dayJ S M can d j).dlo (rmAt S M can ((d * 24 + j : Nat) : Int)).dlo, max (dayJ S M can d j).dhi (rmAt S M can ((d * 24 + j : Nat) : Int)).dhi⟩
def climV (S : Site) (M : List Mv) (can days : Nat) : List Day := (List.range days).map fun d => dayJ S M can d 24
def playE (S : Site) (L : List Mv) (can : Int) : Int := if movedE S L ≠ 0 then movedE S L else if inB can 0 (S.cans.length - 1) = false then 4 else 0
def tempE (S : Site) (L : List Mv) (can hour : Int) : Int := if playE S L can ≠ 0 then playE S L can else if inB hour 0 2400 = false then 7 else 0
def whereE (S : Site) (L : List Mv) (hour : Int) : Int := if movedE S L ≠ 0 then movedE S L else if inB hour 0 2400 = false then 7 else 0
def climE (S : Site) (L : List Mv) (can days : Int) : Int := if playE S L can ≠ 0 then playE S L can else if inB days 0 100 = false then 7 else 0
/-! Ways. -/
def natD (l : List Nat) (i : Nat) : Nat := l.getD i 0
def barred (S : Site) (base : Int) (r : Nat) : Bool := decide (base = 1) && !(rmD S.rooms r).allows
def dupB (L : List Nat) (i : Nat) : Bool := anyF (fun k => decide (natD L k = natD L i)) i
def wayG (S : Site) (base : Int) (t0 : Span) (L : List Nat) : Nat → Option (List Sty × Int × Span)
  | 0 => some ([], 0, t0)
  | i + 1 => match wayG S base t0 L i with
    | none => none
    | some (st, h, t) =>
      if dupB L i then none else if (decide (0 < i) && barred S base (natD L i)) = true then none
      else if i + 1 < L.length then
        match waitV S (natD L i) (natD L (i + 1)) t with
        | none => none
        | some (n, u) => some (st ++ [⟨(natD L i : Int), (n : Int)⟩], h + n, u)
      else some (st ++ [⟨(natD L i : Int), 0⟩], h, t)
def wayV (S : Site) (base : Int) (t0 : Span) (L : List Nat) : Option (List Sty × Int) :=
  if L.length < 1 ∨ 5 < L.length then none else (wayG S base t0 L L.length).map fun x => (x.1, x.2.1)
def exts (n : Nat) (l : List Nat) : List (List Nat) := ((List.range n).filter fun r => !l.contains r).map fun r => l ++ [r]
def endsB (to : Nat) (l : List Nat) : Bool := decide (natD l (l.length - 1) = to)
/-- All ways, those with fewer rooms first. -/
def waysV (n to : Nat) : Nat → List (List Nat) → List (List Nat)
  | 0, _ => []
  | m + 1, b => b.filter (endsB to) ++ waysV n to m ((b.filter fun l => !endsB to l).flatMap (exts n))
def better (st : Int × List Sty) (w : Option (List Sty × Int)) : Int × List Sty :=
  match w with
  | none => st
  | some (l, h) => if st.1 < 0 ∨ h < st.1 then (h, l) else st
def bestR (S : Site) (base : Int) (t : Span) (fr to : Nat) : Int × List Sty := ((waysV S.rooms.length to 5 [[fr]]).map (wayV S base t)).foldl better (-1, [])
def srch (S : Site) (base : Int) (to : Nat) : Nat → List Nat → List Sty → Span → Nat → Int → Int × List Sty → Int × List Sty
  | 0, _, now, _, room, sum, st => if 0 ≤ st.1 ∧ st.1 ≤ sum then st else if room = to then (sum, now ++ [⟨(to : Int), 0⟩]) else st
  | m + 1, been, now, t, room, sum, st =>
    if 0 ≤ st.1 ∧ st.1 ≤ sum then st else if room = to then st
    else (List.range S.rooms.length).foldl (fun st nx =>
      if ((room :: been).contains nx || barred S base nx) = true then st
      else match waitV S room nx t with
        | none => st
        | some (n, u) => srch S base to m (room :: been) (now ++ [⟨(room : Int), (n : Int)⟩]) u nx (sum + n) st) st
def bestP (S : Site) (base : Int) (t : Span) (fr to : Nat) : Int × List Sty := (List.range 5).foldl (fun st k => srch S base to k [] [] t fr 0 st) (-1, [])
def pathE (S : Site) (base : Int) (t : Span) (fr to : Int) : Int :=
  if (checkV S).2.2 ≠ 0 then (checkV S).2.2 else if inB base 1 3 = false then 2 else if spanE t ≠ 0 then spanE t
  else if (inB fr 0 (S.rooms.length - 1) && inB to 0 (S.rooms.length - 1)) = false then 4 else 0
end Go.Proofs.YtfpaihjcbpaneaaGreatDoor.D
namespace Go.Proofs.YtfpaihjcbpaneaaGreatDoor.D
set_option linter.unusedVariables false
set_option linter.unusedSimpArgs false
theorem mvD_app {L E : List Mv} {i : Nat} (h : i < L.length) : mvD (L ++ E) i = mvD L i := by
  unfold mvD; rw [List.getD_eq_getElem?_getD, List.getD_eq_getElem?_getD, List.getElem?_append_left h]
theorem mvD_new (L : List Mv) (x : Mv) : mvD (L ++ [x]) L.length = x := by unfold mvD; simp
theorem mvD_take {L : List Mv} {n i : Nat} (h : i < n) : mvD (L.take n) i = mvD L i := by
  unfold mvD; rw [List.getD_eq_getElem?_getD, List.getD_eq_getElem?_getD, List.getElem?_take_of_lt h]
theorem atK_congr {S : Site} {M M' : List Mv} {c : Nat} {h : Int} : ∀ {k : Nat}, (∀ i, i < k → mvD M i = mvD M' i) → atK S M c h k = atK S M' c h k
  | 0, _ => rfl
  | k + 1, e => by rw [atK, atK, atK_congr fun i hi => e i (by omega), e k (by omega)]
theorem atK_app {S : Site} {M E : List Mv} {c : Nat} {h : Int} {k : Nat} (hk : k ≤ M.length) : atK S (M ++ E) c h k = atK S M c h k := atK_congr fun i hi => mvD_app (by omega)
theorem atV_snoc (S : Site) (M : List Mv) (m : Mv) (c : Nat) (h : Int) : atV S (M ++ [m]) c h = if m.can = (c : Int) ∧ m.hour ≤ h then m.to_ else atV S M c h := by
  unfold atV
  rw [List.length_append, List.length_singleton, atK, mvD_new, atK_app (Nat.le_refl _)]
/-- Moves behind an hour do not count. -/
theorem atV_late {S : Site} {c : Nat} {h : Int} : ∀ {E M : List Mv}, (∀ m ∈ E, h < m.hour) → atV S (M ++ E) c h = atV S M c h
  | [], M, _ => by rw [List.append_nil]
  | m :: E, M, hE => by
    have e : M ++ m :: E = (M ++ [m]) ++ E := by simp
    rw [e, atV_late fun x hx => hE x (List.mem_cons_of_mem _ hx), atV_snoc, if_neg (by have := hE m List.mem_cons_self; omega)]
def sortedM (M : List Mv) : Prop := M.Pairwise fun a b => a.hour ≤ b.hour
/-- What was kept: each move was not refused when it came. -/
structure Kept (S : Site) (M : List Mv) : Prop where
  ok : ∀ k, k < M.length → whyV S (M.take k) (mvD M k) = 0
  valid : ∀ m ∈ M, mvE S m = 0
theorem whyV_hour {S : Site} {M : List Mv} {m : Mv} (h : whyV S M m = 0) : M.length = 0 ∨ (mvD M (M.length - 1)).hour ≤ m.hour := by
  unfold whyV at h
  split at h
  · cases h
  · omega
theorem take_succ' {M : List Mv} {k : Nat} (hk : k < M.length) : M.take (k + 1) = M.take k ++ [mvD M k] := by
  rw [List.take_succ_eq_append_getElem hk]; unfold mvD; rw [List.getD_eq_getElem?_getD, List.getElem?_eq_getElem hk]; rfl
theorem mem_mvD {M : List Mv} {m : Mv} (h : m ∈ M) : ∃ i, i < M.length ∧ mvD M i = m := by
  obtain ⟨i, hi, rfl⟩ := List.getElem_of_mem h
  exact ⟨i, hi, by unfold mvD; rw [List.getD_eq_getElem?_getD, List.getElem?_eq_getElem hi]; rfl⟩
theorem mvD_mem {M : List Mv} {i : Nat} (h : i < M.length) : mvD M i ∈ M := by unfold mvD; rw [List.getD_eq_getElem?_getD, List.getElem?_eq_getElem h]; exact List.getElem_mem _
theorem Kept.next {S : Site} {M : List Mv} (hK : Kept S M) {k : Nat} (hk : k + 1 < M.length) : (mvD M k).hour ≤ (mvD M (k + 1)).hour := by
  have := whyV_hour (hK.ok (k + 1) hk)
  rw [List.length_take, Nat.min_eq_left (by omega)] at this
  rcases this with h | h
  · omega
  · rw [show k + 1 - 1 = k by omega, mvD_take (by omega)] at h; exact h
theorem Kept.mono {S : Site} {M : List Mv} (hK : Kept S M) {i j : Nat} (hij : i ≤ j) (hj : j < M.length) : (mvD M i).hour ≤ (mvD M j).hour := by
  induction j with
  | zero => obtain rfl : i = 0 := by omega
            exact Int.le_refl _
  | succ j ih =>
    rcases Nat.lt_or_ge j i with h | h
    · obtain rfl : i = j + 1 := by omega
      exact Int.le_refl _
    · have := ih h (by omega)
      have := hK.next hj
      omega
theorem Kept.take {S : Site} {M : List Mv} (hK : Kept S M) (n : Nat) : Kept S (M.take n) :=
  ⟨fun k hk => by
    rw [List.length_take] at hk
    rw [List.take_take, Nat.min_eq_left (by omega), mvD_take (by omega)]; exact hK.ok k (by omega),
   fun m hm => hK.valid m (List.mem_of_mem_take hm)⟩
theorem kept_nil (S : Site) : Kept S [] := ⟨fun k hk => absurd hk (Nat.not_lt_zero k), fun m hm => by cases hm⟩
theorem Kept.snoc {S : Site} {M : List Mv} {m : Mv} (hK : Kept S M) (h : whyV S M m = 0) (hv : mvE S m = 0) : Kept S (M ++ [m]) :=
  ⟨fun k hk => by
    rw [List.length_append, List.length_singleton] at hk
    rcases Nat.lt_or_ge k M.length with h1 | h1
    · rw [List.take_append_of_le_length (by omega), mvD_app h1]; exact hK.ok k h1
    · obtain rfl : k = M.length := by omega
      rw [List.take_left, mvD_new]; exact h,
   fun x hx => by
    rcases List.mem_append.1 hx with h1 | h1
    · exact hK.valid x h1
    · rw [List.mem_singleton.1 h1]; exact hv⟩
/-- What play does. -/
structure Played (S : Site) (L : List Mv) (k : Nat) : Prop where
  kept : Kept S (playK S L k).1
  len : (playK S L k).2.length = k
  le : (playK S L k).1.length ≤ k
theorem played {S : Site} {L : List Mv} (hv : ∀ i, i < L.length → mvE S (mvD L i) = 0) : ∀ {k : Nat}, k ≤ L.length → Played S L k
  | 0, _ => ⟨kept_nil S, rfl, Nat.le_refl _⟩
  | k + 1, hk => by
    have ih := played hv (k := k) (by omega)
    refine ⟨?_, ?_, ?_⟩
    · rw [playK]; simp only
      split
      · rename_i h; exact ih.kept.snoc h (hv k (by omega))
      · exact ih.kept
    · rw [playK]; simp [ih.len]
    · rw [playK]; simp only
      have := ih.le
      split
      · simp; omega
      · omega
theorem playK_congr {S : Site} {L L' : List Mv} : ∀ {k : Nat}, (∀ i, i < k → mvD L i = mvD L' i) → playK S L k = playK S L' k
  | 0, _ => rfl
  | k + 1, e => by rw [playK, playK, playK_congr fun i hi => e i (by omega), e k (by omega)]
theorem playK_pre {S : Site} {L : List Mv} {k : Nat} : ∀ {n : Nat}, k ≤ n → (playK S L k).1 <+: (playK S L n).1 ∧ (playK S L k).2 <+: (playK S L n).2
  | 0, h => by obtain rfl : k = 0 := by omega
               exact ⟨List.prefix_rfl, List.prefix_rfl⟩
  | n + 1, h => by
    rcases Nat.lt_or_ge n k with h1 | h1
    · obtain rfl : k = n + 1 := by omega
      exact ⟨List.prefix_rfl, List.prefix_rfl⟩
    · obtain ⟨a, b⟩ := playK_pre (S := S) (L := L) h1
      rw [playK]; simp only
      refine ⟨?_, b.trans (List.prefix_append _ _)⟩
      split
      · exact a.trans (List.prefix_append _ _)
      · exact a
/-- What was kept is kept again. -/
theorem play_again {S : Site} {M : List Mv} (hK : Kept S M) : ∀ {k : Nat}, k ≤ M.length → playK S M k = (M.take k, List.replicate k 0)
  | 0, _ => by simp [playK]
  | k + 1, hk => by
    rw [playK, play_again hK (k := k) (by omega)]
    simp only
    rw [hK.ok k (by omega), if_pos rfl, take_succ' (by omega), List.replicate_succ']
/-! The nitrate in the rooms. -/
def okAmt (S : Site) (wh : List Int) : Prop := ∀ r : Nat, 0 < amt S wh r → (rmD S.rooms r).allows = true ∧ amt S wh r ≤ (rmD S.rooms r).most
/-- Valid cans. -/
structure CansOk (S : Site) : Prop where
  base : ∀ i, i < S.cans.length → 1 ≤ (cnD S.cans i).base ∧ (cnD S.cans i).base ≤ 3
  frames : ∀ i, i < S.cans.length → 1 ≤ (cnD S.cans i).frames ∧ (cnD S.cans i).frames ≤ 200000
  room : ∀ i, i < S.cans.length → 0 ≤ (cnD S.cans i).room ∧ (cnD S.cans i).room < S.rooms.length
theorem amtK_nonneg {S : Site} (hC : CansOk S) {wh : List Int} {r : Int} : ∀ {k : Nat}, k ≤ S.cans.length → 0 ≤ amtK S.cans wh r k ∧ amtK S.cans wh r k ≤ 200000 * k
  | 0, _ => by simp [amtK]
  | k + 1, hk => by
    have ih := amtK_nonneg hC (wh := wh) (r := r) (k := k) (by omega)
    have hf := hC.frames k (by omega)
    rw [amtK]; split <;> omega
theorem amtK_congr {C : List Cn} {wh wh' : List Int} {r : Int} : ∀ {k : Nat}, (∀ i, i < k → (intD wh i = r ↔ intD wh' i = r) ∨ (cnD C i).base ≠ 1) → amtK C wh r k = amtK C wh' r k
  | 0, _ => rfl
  | k + 1, h => by
    rw [amtK, amtK, amtK_congr fun i hi => h i (by omega)]
    congr 1
    rcases h k (by omega) with h1 | h1
    · simp only [h1]
    · rw [if_neg (fun h => h1 h.2), if_neg (fun h => h1 h.2)]
theorem amtK_le {S : Site} (hC : CansOk S) {wh wh' : List Int} {r : Int} : ∀ {k : Nat}, k ≤ S.cans.length → (∀ i, i < k → intD wh i = r → intD wh' i = r) → amtK S.cans wh r k ≤ amtK S.cans wh' r k
  | 0, _, _ => Int.le_refl _
  | k + 1, hk, h => by
    rw [amtK, amtK]
    have ih := amtK_le hC (wh := wh) (wh' := wh') (r := r) (k := k) (by omega) (fun i hi => h i (by omega))
    have hf := hC.frames k (by omega)
    have := h k (by omega)
    split
    · rename_i h1
      rw [if_pos ⟨this h1.1, h1.2⟩]; omega
    · split <;> omega
theorem intD_set {l : List Int} {i j : Nat} {v : Int} (hi : i < l.length) : intD (l.set i v) j = if j = i then v else intD l j := by
  unfold intD
  rw [List.getD_eq_getElem?_getD, List.getD_eq_getElem?_getD, List.getElem?_set]
  by_cases h : i = j
  · subst h; rw [if_pos rfl, if_pos rfl]; simp [hi]
  · rw [if_neg h, if_neg (Ne.symm h)]
theorem whereV_len (S : Site) (M : List Mv) (h : Int) : (whereV S M h).length = S.cans.length := by simp [whereV]
theorem whereV_at {S : Site} {M : List Mv} {h : Int} {i : Nat} (hi : i < S.cans.length) : intD (whereV S M h) i = atV S M i h := by
  unfold intD whereV; rw [List.getD_eq_getElem?_getD, List.getElem?_map]; simp [hi]
theorem amt_congr {S : Site} {wh wh' : List Int} {r : Nat} (h : ∀ i, i < S.cans.length → intD wh i = intD wh' i) : amt S wh r = amt S wh' r := amtK_congr fun i hi => .inl (by rw [h i hi])
theorem nearB_congr {S : Site} {wh wh' : List Int} (h : ∀ r, amt S wh r = amt S wh' r) (a b : Nat) : nearB S wh a b = nearB S wh' a b := by unfold nearB risk; rw [h a, h b]
theorem nearRow_congr {S : Site} {wh wh' : List Int} (h : ∀ r, amt S wh r = amt S wh' r) : ∀ (a k : Nat), nearRow S wh a k = nearRow S wh' a k
  | _, 0 => rfl
  | a, k + 1 => by rw [nearRow, nearRow, nearRow_congr h a k, nearB_congr h]
theorem nearK_congr {S : Site} {wh wh' : List Int} (h : ∀ r, amt S wh r = amt S wh' r) : ∀ (a : Nat), nearK S wh a = nearK S wh' a
  | 0 => rfl
  | a + 1 => by rw [nearK, nearK, nearK_congr h a, nearRow_congr h]
theorem nears_congr {S : Site} {wh wh' : List Int} (h : ∀ i, i < S.cans.length → intD wh i = intD wh' i) : nears S wh = nears S wh' := nearK_congr (fun r => amt_congr h) _
/-- A place of all cans as it should be. -/
def GoodW (S : Site) (wh : List Int) : Prop := okAmt S wh ∧ nears S wh = []
theorem good_congr {S : Site} {wh wh' : List Int} (h : ∀ i, i < S.cans.length → intD wh i = intD wh' i) (hg : GoodW S wh) : GoodW S wh' :=
  ⟨fun r => by rw [← amt_congr h]; exact hg.1 r, by rw [← nears_congr h]; exact hg.2⟩
theorem mvE_iff {S : Site} {m : Mv} : mvE S m = 0 ↔ (0 ≤ m.hour ∧ m.hour ≤ 2400) ∧ (0 ≤ m.can ∧ m.can < S.cans.length) ∧ 0 ≤ m.to_ ∧ m.to_ < S.rooms.length := by
  unfold mvE
  constructor
  · intro h
    split at h
    · cases h
    · rename_i h1
      split at h
      · cases h
      · rename_i h2
        simp only [Bool.not_eq_false, Bool.and_eq_true] at h1 h2
        have a := of_decide_eq_true h1; have b := of_decide_eq_true h2.1; have c := of_decide_eq_true h2.2
        omega
  · rintro ⟨a, b, c⟩
    have h1 : inB m.hour 0 2400 = true := decide_eq_true a
    have h2 : inB m.can 0 (S.cans.length - 1) = true := decide_eq_true (by omega)
    have h3 : inB m.to_ 0 (S.rooms.length - 1) = true := decide_eq_true (by omega)
    rw [h1, h2, h3]; rfl
theorem good_move {S : Site} {M : List Mv} {m : Mv} (hC : CansOk S) (hv : mvE S m = 0) (hg : GoodW S (whereV S M m.hour)) (h : whyV S M m = 0) : GoodW S (moveW S M m) := by
  obtain ⟨-, ⟨c1, c2⟩, t1, t2⟩ := mvE_iff.1 hv
  have hlt : m.can.toNat < (whereV S M m.hour).length := by rw [whereV_len]; omega
  unfold whyV at h
  split at h
  · cases h
  split at h
  · cases h
  split at h
  · cases h
  rename_i hal
  split at h
  · cases h
  rename_i hful
  split at h
  · cases h
  rename_i hn
  refine ⟨fun r hr => ?_, Classical.not_not.1 hn⟩
  by_cases hb : (cnD S.cans m.can.toNat).base = 1
  · by_cases hrt : (r : Int) = m.to_
    · have er : m.to_.toNat = r := by omega
      rw [er] at hal hful
      refine ⟨?_, by omega⟩
      cases ha : (rmD S.rooms r).allows
      · exact absurd ⟨hb, ha⟩ hal
      · rfl
    · have hle : amt S (moveW S M m) r ≤ amt S (whereV S M m.hour) r := by
        refine amtK_le hC (Nat.le_refl _) fun i hi he => ?_
        unfold moveW at he
        rw [intD_set hlt] at he
        split at he
        · omega
        · exact he
      have := hg.1 r (by omega)
      exact ⟨this.1, by omega⟩
  · have he : amt S (moveW S M m) r = amt S (whereV S M m.hour) r := by
      refine amtK_congr fun i hi => ?_
      unfold moveW
      rw [intD_set hlt]
      by_cases h1 : i = m.can.toNat
      · exact .inr (by rw [h1]; exact hb)
      · rw [if_neg h1]; exact .inl Iff.rfl
    rw [he] at hr ⊢
    exact hg.1 r hr
theorem take_late {S : Site} {M : List Mv} (hK : Kept S M) {j : Nat} {h : Int} (hj : j ≤ M.length) (h1 : j < M.length → h < (mvD M j).hour) {c : Nat} : atV S M c h = atV S (M.take j) c h := by
  conv => lhs; rw [← List.take_append_drop j M]
  refine atV_late fun m hm => ?_
  obtain ⟨i, hi, rfl⟩ := List.getElem_of_mem hm
  rw [List.length_drop] at hi
  have e : (M.drop j)[i] = mvD M (j + i) := by
    rw [List.getElem_drop]; unfold mvD; rw [List.getD_eq_getElem?_getD, List.getElem?_eq_getElem (by omega)]; rfl
  rw [e]
  have := hK.mono (i := j) (j := j + i) (by omega) (by omega)
  have := h1 (by omega)
  omega
/-- How many moves count in an hour. -/
theorem upto {S : Site} {M : List Mv} (hK : Kept S M) (h : Int) : ∃ j, j ≤ M.length ∧ (∀ i, i < j → (mvD M i).hour ≤ h) ∧ (j < M.length → h < (mvD M j).hour) := by
  refine ⟨firstN (fun i => decide (h < (mvD M i).hour)) M.length, firstN_le _ _, fun i hi => ?_, fun hlt => ?_⟩
  · have := (firstN_spec (p := fun i => decide (h < (mvD M i).hour)) (n := M.length)).1 i hi
    have := of_decide_eq_false this; omega
  · exact of_decide_eq_true ((firstN_spec (p := fun i => decide (h < (mvD M i).hour)) (n := M.length)).2 hlt)
theorem atV_early {S : Site} {c : Nat} {h h' : Int} : ∀ {k : Nat} {M : List Mv}, (∀ i, i < k → (mvD M i).hour ≤ h) → h ≤ h' → atK S M c h k = atK S M c h' k
  | 0, _, _, _ => rfl
  | k + 1, M, hM, hh => by
    rw [atK, atK, atV_early (fun i hi => hM i (by omega)) hh]
    have := hM k (by omega)
    by_cases hc : (mvD M k).can = (c : Int)
    · rw [if_pos ⟨hc, this⟩, if_pos ⟨hc, by omega⟩]
    · rw [if_neg (fun h => hc h.1), if_neg (fun h => hc h.1)]
theorem where_move {S : Site} {M : List Mv} {m : Mv} (hv : mvE S m = 0) {i : Nat} (hi : i < S.cans.length) : intD (moveW S M m) i = intD (whereV S (M ++ [m]) m.hour) i := by
  obtain ⟨-, ⟨c1, c2⟩, t1, t2⟩ := mvE_iff.1 hv
  unfold moveW
  rw [intD_set (by rw [whereV_len]; omega), whereV_at hi, whereV_at hi, atV_snoc]
  by_cases h : i = m.can.toNat
  · rw [if_pos h, if_pos ⟨by omega, Int.le_refl _⟩]
  · rw [if_neg h, if_neg (fun hc => h (by omega))]
/-- At each hour all stands as it should. -/
theorem good_at {S : Site} (hC : CansOk S) (h0 : GoodW S (firstW S.cans)) : ∀ {n : Nat} {M : List Mv}, M.length = n → Kept S M → ∀ h : Int, GoodW S (whereV S M h)
  | 0, M, hn, hK, h => by
    obtain rfl := List.eq_nil_of_length_eq_zero hn
    refine good_congr (fun i hi => ?_) h0
    rw [whereV_at hi]
    unfold firstW intD atV atK cnD
    rw [List.getD_eq_getElem?_getD, List.getElem?_map, List.getD_eq_getElem?_getD, List.getElem?_eq_getElem hi]; rfl
  | n + 1, M, hn, hK, h => by
    obtain ⟨j, hj, h1, h2⟩ := upto hK h
    rcases Nat.lt_or_ge j M.length with hlt | hge
    · have hg := good_at hC h0 (n := j) (M := M.take j) (by simp; omega) (hK.take j) h
      refine good_congr (fun i hi => ?_) hg
      rw [whereV_at hi, whereV_at hi, take_late hK hj h2]
    · obtain rfl : j = M.length := by omega
      have hM : M = M.take n ++ [mvD M n] := by rw [← take_succ' (by omega), List.take_of_length_le (by omega)]
      have hg := good_at hC h0 (n := n) (M := M.take n) (by simp; omega) (hK.take n) (mvD M n).hour
      have hv := hK.valid _ (mvD_mem (M := M) (i := n) (by omega))
      have hm := good_move hC hv hg (hK.ok n (by omega))
      refine good_congr (fun i hi => ?_) hm
      rw [where_move hv hi, ← hM, whereV_at hi, whereV_at hi]
      unfold atV
      exact atV_early (fun i hi => hK.mono (by omega) (by omega)) (h1 n (by omega))
end Go.Proofs.YtfpaihjcbpaneaaGreatDoor.D
namespace Go.Proofs.YtfpaihjcbpaneaaGreatDoor.D
set_option linter.unusedVariables false
set_option linter.unusedSimpArgs false
/-- So many per cent of the way from one temperature to another one: monotone in both. -/
theorem mix_mono {t t' a a' k : Int} (h0 : 0 ≤ k) (h1 : k ≤ 100) (ht : t ≤ t') (ha : a ≤ a') : t + (a - t) * k / 100 ≤ t' + (a' - t') * k / 100 := by
  have e1 : (a - t) * k = a * k - t * k := Int.sub_mul a t k
  have e2 : (a' - t') * k = a' * k - t' * k := Int.sub_mul a' t' k
  have p : a * k ≤ a' * k := Int.mul_le_mul_of_nonneg_right ha h0
  have q : (t' - t) * k ≤ (t' - t) * 100 := Int.mul_le_mul_of_nonneg_left h1 (by omega)
  have e3 : (t' - t) * k = t' * k - t * k := Int.sub_mul t' t k
  rw [e1, e2]
  generalize a * k = A at *; generalize a' * k = A' at *; generalize t * k = T at *; generalize t' * k = T' at *
  omega
theorem mix_mono' {t t' a a' k : Int} (h0 : 0 ≤ k) (h1 : k ≤ 100) (ht : t ≤ t') (ha : a ≤ a') : t - (t - a) * k / 100 ≤ t' - (t' - a') * k / 100 := by
  have e1 : (t - a) * k = t * k - a * k := Int.sub_mul t a k
  have e2 : (t' - a') * k = t' * k - a' * k := Int.sub_mul t' a' k
  have p : a * k ≤ a' * k := Int.mul_le_mul_of_nonneg_right ha h0
  have q : (t' - t) * k ≤ (t' - t) * 100 := Int.mul_le_mul_of_nonneg_left h1 (by omega)
  have e3 : (t' - t) * k = t' * k - t * k := Int.sub_mul t' t k
  rw [e1, e2]
  generalize a * k = A at *; generalize a' * k = A' at *; generalize t * k = T at *; generalize t' * k = T' at *
  omega
/-- The rate that makes least of a difference. -/
theorem pick_le {n lo hi k : Int} (h1 : lo ≤ k) (h2 : k ≤ hi) : n * (if n < 0 then hi else lo) ≤ n * k := by
  split
  · exact Int.mul_le_mul_of_nonpos_left (by omega) h2
  · exact Int.mul_le_mul_of_nonneg_left h1 (by omega)
theorem pick_eq (a b lo hi : Int) : (if a < b then hi else lo) = (if a - b < 0 then hi else lo) := by
  by_cases h : a < b
  · rw [if_pos h, if_pos (by omega)]
  · rw [if_neg h, if_neg (by omega)]
theorem warm_lo {S : Site} {r : Rm} {t : Span} {o a k : Int} (hR : RateIn S) (ht : t.lo ≤ o) (ha : r.tlo ≤ a) (h1 : S.rlo ≤ k) (h2 : k ≤ S.rhi) : (warmV S r t).lo ≤ o + (a - o) * k / 100 := by
  obtain ⟨s1, s2, s3, s4⟩ := hR
  have m := mix_mono (k := k) (by omega) (by omega) ht ha
  have p := pick_le (n := r.tlo - t.lo) h1 h2
  rw [← pick_eq] at p
  have e : (warmV S r t).lo = t.lo + (r.tlo - t.lo) * (if r.tlo < t.lo then S.rhi else S.rlo) / 100 := rfl
  rw [e]
  generalize (r.tlo - t.lo) * (if r.tlo < t.lo then S.rhi else S.rlo) = X at *
  generalize (r.tlo - t.lo) * k = Y at *
  generalize (a - o) * k = Z at *
  omega
theorem warm_hi {S : Site} {r : Rm} {t : Span} {o a k : Int} (hR : RateIn S) (ht : o ≤ t.hi) (ha : a ≤ r.thi) (h1 : S.rlo ≤ k) (h2 : k ≤ S.rhi) : o - (o - a) * k / 100 ≤ (warmV S r t).hi := by
  obtain ⟨s1, s2, s3, s4⟩ := hR
  have m := mix_mono' (k := k) (by omega) (by omega) ht ha
  have p := pick_le (n := t.hi - r.thi) h1 h2
  rw [← pick_eq] at p
  have e : (warmV S r t).hi = t.hi - (t.hi - r.thi) * (if t.hi < r.thi then S.rhi else S.rlo) / 100 := rfl
  rw [e]
  generalize (t.hi - r.thi) * (if t.hi < r.thi then S.rhi else S.rlo) = X at *
  generalize (t.hi - r.thi) * k = Y at *
  generalize (o - a) * k = Z at *
  omega
/-- One span is within another one. -/
def Within (u t : Span) : Prop := t.lo ≤ u.lo ∧ u.hi ≤ t.hi
theorem warm_within {S S' : Site} {r r' : Rm} {t t' : Span} (hR : RateIn S) (hlo : S.rlo ≤ S'.rlo) (hm : S'.rlo ≤ S'.rhi) (hhi : S'.rhi ≤ S.rhi) (ht : Within t' t) (h1 : r.tlo ≤ r'.tlo) (h2 : r'.thi ≤ r.thi) : Within (warmV S' r' t') (warmV S r t) := by
  have a := warm_lo (S := S) (r := r) (t := t) (o := t'.lo) (a := r'.tlo) (k := if r'.tlo < t'.lo then S'.rhi else S'.rlo) hR ht.1 h1 (by split <;> omega) (by split <;> omega)
  have b := warm_hi (S := S) (r := r) (t := t) (o := t'.hi) (a := r'.thi) (k := if t'.hi < r'.thi then S'.rhi else S'.rlo) hR ht.2 h2 (by split <;> omega) (by split <;> omega)
  exact ⟨a, b⟩
theorem warmN_within {S S' : Site} {r r' : Rm} (hR : RateIn S) (hlo : S.rlo ≤ S'.rlo) (hm : S'.rlo ≤ S'.rhi) (hhi : S'.rhi ≤ S.rhi) (h1 : r.tlo ≤ r'.tlo) (h2 : r'.thi ≤ r.thi) : ∀ (n : Nat) {t t' : Span}, Within t' t → Within (warmN S' r' n t') (warmN S r n t)
  | 0, _, _, h => h
  | n + 1, _, _, h => warmN_within hR hlo hm hhi h1 h2 n (warm_within hR hlo hm hhi h h1 h2)
/-- So many 512ths narrower. -/
def lessS (s : Span) (b : Int) : Span := ⟨s.lo + (s.hi - s.lo) * b / 512, s.hi - (s.hi - s.lo) * b / 512⟩
theorem less_in {s : Span} {b : Int} (h : s.lo ≤ s.hi) (h0 : 0 ≤ b) (h1 : b ≤ 255) : s.lo ≤ (lessS s b).lo ∧ (lessS s b).lo ≤ (lessS s b).hi ∧ (lessS s b).hi ≤ s.hi := by
  unfold lessS
  simp only
  have p : 0 ≤ (s.hi - s.lo) * b := Int.mul_nonneg (by omega) h0
  have q : (s.hi - s.lo) * b ≤ (s.hi - s.lo) * 255 := Int.mul_le_mul_of_nonneg_left h1 (by omega)
  generalize (s.hi - s.lo) * b = X at *
  omega
/-- So many 255ths on. -/
def partV (lo hi : Int) (b : Int) : Int := lo + (hi - lo) * b / 255
theorem part_in {lo hi b : Int} (h : lo ≤ hi) (h0 : 0 ≤ b) (h1 : b ≤ 255) : lo ≤ partV lo hi b ∧ partV lo hi b ≤ hi := by
  unfold partV
  have p : 0 ≤ (hi - lo) * b := Int.mul_nonneg (by omega) h0
  have q : (hi - lo) * b ≤ (hi - lo) * 255 := Int.mul_le_mul_of_nonneg_left h1 (by omega)
  generalize (hi - lo) * b = X at *
  omega
/-- An hour later, rounded either way. -/
def towardV (own room rate : Int) (up : Bool) : Int :=
  if up ∧ (room - own) * rate / 100 * 100 ≠ (room - own) * rate then own + ((room - own) * rate / 100 + 1) else own + (room - own) * rate / 100
theorem toward_in {S : Site} {r : Rm} {t : Span} {o a k : Int} {up : Bool} (hR : RateIn S) (h1 : t.lo ≤ o) (h2 : o ≤ t.hi) (h3 : r.tlo ≤ a) (h4 : a ≤ r.thi) (h5 : S.rlo ≤ k) (h6 : k ≤ S.rhi) :
    (warmV S r t).lo ≤ towardV o a k up ∧ towardV o a k up ≤ (warmV S r t).hi := by
  have p := warm_lo (r := r) (t := t) hR h1 h3 h5 h6
  have q := warm_hi (r := r) (t := t) hR h2 h4 h5 h6
  have e : (o - a) * k = -((a - o) * k) := by rw [← Int.neg_mul]; congr 1; omega
  rw [e] at q
  unfold towardV
  generalize (a - o) * k = X at *
  split <;> omega
theorem toward_range {o a k : Int} {up : Bool} (h1 : -300 ≤ o) (h2 : o ≤ 600) (h3 : -300 ≤ a) (h4 : a ≤ 600) (h5 : 0 ≤ k) (h6 : k ≤ 100) : -300 ≤ towardV o a k up ∧ towardV o a k up ≤ 600 := by
  unfold towardV
  rcases Int.le_total 0 (a - o) with h | h
  · have p : (a - o) * k ≤ (a - o) * 100 := Int.mul_le_mul_of_nonneg_left h6 h
    have q : 0 ≤ (a - o) * k := Int.mul_nonneg h h5
    generalize (a - o) * k = X at *
    split <;> omega
  · have p : (a - o) * 100 ≤ (a - o) * k := Int.mul_le_mul_of_nonpos_left h h6
    have q : (a - o) * k ≤ 0 := Int.mul_nonpos_of_nonpos_of_nonneg h h5
    generalize (a - o) * k = X at *
    split <;> omega
end Go.Proofs.YtfpaihjcbpaneaaGreatDoor.D
namespace Go.Proofs.YtfpaihjcbpaneaaGreatDoor.D
set_option linter.unusedVariables false
set_option linter.unusedSimpArgs false
structure Chk (S : Site) : Prop where
  len : (1 ≤ S.rooms.length ∧ S.rooms.length ≤ 12) ∧ S.cans.length ≤ 30 ∧ S.steps.length ≤ 8
  rm : ∀ i, i < S.rooms.length → rmE S.rooms i = 0
  cn : ∀ i, i < S.cans.length → cnE S i = 0
  rate : (1 ≤ S.rlo ∧ S.rlo ≤ 100) ∧ 1 ≤ S.rhi ∧ S.rhi ≤ 100
  rle : S.rlo ≤ S.rhi
  st : ∀ i, i < S.steps.length → stE S.steps i = 0
  ov : ∀ i, i < S.cans.length → overB S i = false
  nr : nears S (firstW S.cans) = []
theorem first_all {p : Nat → Int} {n : Nat} : ¬ firstN (fun i => p i != 0) n < n ↔ ∀ i, i < n → p i = 0 := by
  constructor
  · intro h i hi
    have hl := firstN_le (fun i => p i != 0) n
    have := (firstN_spec (p := fun i => p i != 0) (n := n)).1 i (by omega)
    simpa using this
  · intro h
    rw [firstN_none (fun i hi => by rw [h i hi]; rfl)]; omega
theorem first_ne {p : Nat → Int} {n : Nat} (h : firstN (fun i => p i != 0) n < n) : p (firstN (fun i => p i != 0) n) ≠ 0 := by
  have := (firstN_spec (p := fun i => p i != 0) (n := n)).2 h
  simpa using this
theorem first_allB {p : Nat → Bool} {n : Nat} : ¬ firstN p n < n ↔ ∀ i, i < n → p i = false := by
  constructor
  · intro h i hi
    have hl := firstN_le p n
    exact (firstN_spec (p := p) (n := n)).1 i (by omega)
  · intro h
    rw [firstN_none h]; omega
theorem chk_iff {S : Site} : (checkV S).2.2 = 0 ↔ Chk S := by
  unfold checkV
  have hlen : (inB (S.rooms.length : Int) 1 12 && decide (S.cans.length ≤ 30) && decide (S.steps.length ≤ 8)) = true ↔ ((1 ≤ S.rooms.length ∧ S.rooms.length ≤ 12) ∧ S.cans.length ≤ 30 ∧ S.steps.length ≤ 8) := by
    simp only [Bool.and_eq_true, inB_iff, decide_eq_true_eq]; omega
  have hrate : (inB S.rlo 1 100 && inB S.rhi 1 100) = true ↔ ((1 ≤ S.rlo ∧ S.rlo ≤ 100) ∧ 1 ≤ S.rhi ∧ S.rhi ≤ 100) := by
    simp only [Bool.and_eq_true, inB_iff]
  constructor
  · intro h
    split at h
    · cases h
    rename_i h1
    split at h
    · rename_i h2; exact absurd h (first_ne h2)
    rename_i h2
    split at h
    · rename_i h3; exact absurd h (first_ne (p := cnE S) h3)
    rename_i h3
    split at h
    · cases h
    rename_i h4
    split at h
    · cases h
    rename_i h5
    split at h
    · rename_i h6; exact absurd h (first_ne h6)
    rename_i h6
    split at h
    · cases h
    rename_i h7
    split at h
    · cases h
    rename_i h8
    exact ⟨hlen.1 (by simpa only [Bool.not_eq_false] using h1), first_all.1 h2, first_all.1 h3, hrate.1 (by simpa only [Bool.not_eq_false] using h4), by omega, first_all.1 h6, first_allB.1 h7, Classical.not_not.1 h8⟩
  · rintro ⟨h1, h2, h3, h4, h5, h6, h7, h8⟩
    rw [hlen.2 h1, if_neg (by simp), if_neg (show ¬ fstR S < _ from first_all.2 h2), if_neg (show ¬ fstC S < _ from first_all.2 h3), hrate.2 h4, if_neg (by simp), if_neg (by omega), if_neg (show ¬ fstS S < _ from first_all.2 h6), if_neg (show ¬ fstO S < _ from first_allB.2 h7), if_neg (not_not_intro h8)]
theorem room_iff {r : Rm} : roomE r = 0 ↔ RIn r ∧ r.tlo ≤ r.thi ∧ r.dlo ≤ r.dhi ∧ (0 ≤ r.most ∧ r.most ≤ 10000000) ∧ (0 ≤ r.x ∧ r.x ≤ 10000) ∧ 0 ≤ r.y ∧ r.y ≤ 10000 := by
  unfold roomE RIn
  have hb : (inB r.tlo (-300) 600 && inB r.thi (-300) 600 && inB r.dlo 0 1000 && inB r.dhi 0 1000 && inB r.most 0 10000000 && inB r.x 0 10000 && inB r.y 0 10000) = true ↔ ((((((-300 ≤ r.tlo ∧ r.tlo ≤ 600) ∧ (-300 ≤ r.thi ∧ r.thi ≤ 600)) ∧ (0 ≤ r.dlo ∧ r.dlo ≤ 1000)) ∧ (0 ≤ r.dhi ∧ r.dhi ≤ 1000)) ∧ (0 ≤ r.most ∧ r.most ≤ 10000000)) ∧ (0 ≤ r.x ∧ r.x ≤ 10000)) ∧ (0 ≤ r.y ∧ r.y ≤ 10000) := by
    simp only [Bool.and_eq_true, inB_iff]
  constructor
  · intro h
    split at h
    · cases h
    rename_i h1
    split at h
    · cases h
    have := hb.1 (by simpa only [Bool.not_eq_false] using h1)
    omega
  · intro h
    rw [hb.2 (by omega), if_neg (by simp), if_neg (by omega)]
theorem can_iff {n : Nat} {c : Cn} : canE n c = 0 ↔ (1 ≤ c.base ∧ c.base ≤ 3) ∧ (1 ≤ c.frames ∧ c.frames ≤ 200000) ∧ 0 ≤ c.room ∧ c.room < n := by
  unfold canE
  constructor
  · intro h
    split at h
    · cases h
    rename_i h1
    split at h
    · cases h
    rename_i h2
    split at h
    · cases h
    rename_i h3
    have a := inB_iff.1 (by simpa using h1); have b := inB_iff.1 (by simpa using h2); have c := inB_iff.1 (by simpa using h3)
    omega
  · intro h
    rw [inB_iff.2 (by omega), inB_iff.2 (by omega), inB_iff.2 (by omega)]; rfl
theorem rm_iff {l : List Rm} {i : Nat} : rmE l i = 0 ↔ okName (rmD l i).name = true ∧ twiceR l i = false ∧ roomE (rmD l i) = 0 := by
  unfold rmE
  cases okName (rmD l i).name
  · simp
  · cases twiceR l i <;> simp
theorem cn_iff {S : Site} {i : Nat} : cnE S i = 0 ↔ okName (cnD S.cans i).name = true ∧ twiceC S.cans i = false ∧ canE S.rooms.length (cnD S.cans i) = 0 := by
  unfold cnE
  cases okName (cnD S.cans i).name
  · simp
  · cases twiceC S.cans i <;> simp
theorem st_iff {l : List Stp} {i : Nat} : stE l i = 0 ↔ ((0 ≤ (stD l i).over ∧ (stD l i).over ≤ 10000000) ∧ 0 ≤ (stD l i).metres ∧ (stD l i).metres ≤ 10000) ∧ (0 < i → (stD l (i - 1)).over < (stD l i).over ∧ (stD l (i - 1)).metres ≤ (stD l i).metres) := by
  unfold stE
  have hb : (inB (stD l i).over 0 10000000 && inB (stD l i).metres 0 10000) = true ↔ ((0 ≤ (stD l i).over ∧ (stD l i).over ≤ 10000000) ∧ 0 ≤ (stD l i).metres ∧ (stD l i).metres ≤ 10000) := by simp only [Bool.and_eq_true, inB_iff]
  constructor
  · intro h
    split at h
    · cases h
    rename_i h1
    split at h
    · cases h
    have := hb.1 (by simpa only [Bool.not_eq_false] using h1)
    exact ⟨this, fun _ => by omega⟩
  · intro h
    rw [hb.2 h.1, if_neg (by simp), if_neg (by omega)]
theorem Chk.room {S : Site} (h : Chk S) {i : Nat} (hi : i < S.rooms.length) : RIn (rmD S.rooms i) ∧ (rmD S.rooms i).tlo ≤ (rmD S.rooms i).thi ∧ (rmD S.rooms i).dlo ≤ (rmD S.rooms i).dhi ∧ (0 ≤ (rmD S.rooms i).most ∧ (rmD S.rooms i).most ≤ 10000000) ∧ (0 ≤ (rmD S.rooms i).x ∧ (rmD S.rooms i).x ≤ 10000) ∧ 0 ≤ (rmD S.rooms i).y ∧ (rmD S.rooms i).y ≤ 10000 :=
  room_iff.1 (rm_iff.1 (h.rm i hi)).2.2
theorem Chk.cans {S : Site} (h : Chk S) : CansOk S :=
  have := fun i hi => can_iff.1 (cn_iff.1 (h.cn i hi)).2.2
  ⟨fun i hi => (this i hi).1, fun i hi => (this i hi).2.1, fun i hi => (this i hi).2.2⟩
theorem Chk.rates {S : Site} (h : Chk S) : RateIn S := ⟨h.rate.1.1, h.rate.1.2, h.rate.2.1, h.rate.2.2⟩
theorem Chk.step {S : Site} (h : Chk S) {i : Nat} (hi : i < S.steps.length) : ((0 ≤ (stD S.steps i).over ∧ (stD S.steps i).over ≤ 10000000) ∧ 0 ≤ (stD S.steps i).metres ∧ (stD S.steps i).metres ≤ 10000) ∧ (0 < i → (stD S.steps (i - 1)).over < (stD S.steps i).over ∧ (stD S.steps (i - 1)).metres ≤ (stD S.steps i).metres) := st_iff.1 (h.st i hi)
/-- At first all stands as it should. -/
theorem amtK_pos {C : List Cn} {wh : List Int} {r : Int} (hf : ∀ i, i < C.length → 1 ≤ (cnD C i).frames) : ∀ {k : Nat}, k ≤ C.length → 0 < amtK C wh r k → ∃ i, i < k ∧ intD wh i = r ∧ (cnD C i).base = 1 ∧ amtK C wh r (i + 1) = amtK C wh r k
  | 0, _, h => by simp [amtK] at h
  | k + 1, hk, h => by
    by_cases hc : intD wh k = r ∧ (cnD C k).base = 1
    · exact ⟨k, by omega, hc.1, hc.2, rfl⟩
    · have e : amtK C wh r (k + 1) = amtK C wh r k := by rw [amtK, if_neg hc, Int.add_zero]
      rw [e] at h ⊢
      obtain ⟨i, h1, h2, h3, h4⟩ := amtK_pos hf (k := k) (by omega) h
      exact ⟨i, by omega, h2, h3, h4⟩
theorem firstW_at {l : List Cn} {i : Nat} (hi : i < l.length) : intD (firstW l) i = (cnD l i).room := by
  unfold firstW intD cnD
  rw [List.getD_eq_getElem?_getD, List.getElem?_map, List.getD_eq_getElem?_getD, List.getElem?_eq_getElem hi]; rfl
theorem Chk.good {S : Site} (h : Chk S) : GoodW S (firstW S.cans) := by
  refine ⟨fun r hr => ?_, h.nr⟩
  obtain ⟨i, h1, h2, h3, h4⟩ := amtK_pos (fun i hi => (h.cans.frames i hi).1) (Nat.le_refl _) hr
  have ho := of_decide_eq_false (h.ov i h1)
  rw [firstW_at h1] at h2
  rw [h2] at ho
  have e : amtK S.cans (firstW S.cans) (r : Int) (i + 1) = amt S (firstW S.cans) r := h4
  rw [e] at ho
  simp only [Int.toNat_natCast] at ho
  refine ⟨?_, ?_⟩
  · cases ha : (rmD S.rooms r).allows
    · exact absurd ⟨h3, .inl ha⟩ ho
    · rfl
  · refine Int.not_lt.1 fun hlt => ho ⟨h3, .inr hlt⟩
/-! No nitrate: nothing is too near. -/
theorem amtK_none {C : List Cn} {wh : List Int} {r : Int} : ∀ {k : Nat}, (∀ i, i < k → (cnD C i).base ≠ 1) → amtK C wh r k = 0
  | 0, _ => rfl
  | k + 1, h => by rw [amtK, amtK_none fun i hi => h i (by omega), if_neg fun hc => h k (by omega) hc.2]; rfl
theorem near_none {S : Site} {wh : List Int} (h : ∀ r, amt S wh r = 0) : nears S wh = [] := by
  have hb : ∀ a b, nearB S wh a b = false := fun a b => by unfold nearB risk; rw [h a, h b]; rfl
  have hr : ∀ a k, nearRow S wh a k = [] := fun a k => by
    induction k with
    | zero => rfl
    | succ k ih => rw [nearRow, ih, hb]; rfl
  unfold nears
  generalize S.rooms.length = n
  have : ∀ a, nearK S wh a = [] := fun a => by
    induction a with
    | zero => rfl
    | succ a ih => rw [nearK, ih, hr]; rfl
  exact this n
/-! Temperatures in time. -/
theorem Chk.atIn {S : Site} (h : Chk S) {M : List Mv} (hK : ∀ m ∈ M, mvE S m = 0) {c : Nat} (hc : c < S.cans.length) (hr : Int) : 0 ≤ atV S M c hr ∧ atV S M c hr < S.rooms.length := by
  unfold atV
  have : ∀ k, k ≤ M.length → 0 ≤ atK S M c hr k ∧ atK S M c hr k < S.rooms.length := fun k hk => by
    induction k with
    | zero => exact h.cans.room c hc
    | succ k ih =>
      rw [atK]
      split
      · exact (mvE_iff.1 (hK _ (mvD_mem (by omega)))).2.2
      · exact ih (by omega)
  exact this _ (Nat.le_refl _)
theorem Chk.rmAt {S : Site} (h : Chk S) {M : List Mv} (hK : ∀ m ∈ M, mvE S m = 0) {c : Nat} (hc : c < S.cans.length) (hr : Int) : RIn (rmAt S M c hr) ∧ (rmAt S M c hr).tlo ≤ (rmAt S M c hr).thi ∧ (rmAt S M c hr).dlo ≤ (rmAt S M c hr).dhi := by
  have := h.atIn hK hc hr
  have := h.room (i := (atV S M c hr).toNat) (by omega)
  exact ⟨this.1, this.2.1, this.2.2.1⟩
theorem Chk.own {S : Site} (h : Chk S) {M : List Mv} (hK : ∀ m ∈ M, mvE S m = 0) {c : Nat} (hc : c < S.cans.length) : ∀ n, TIn (ownT S M c n)
  | 0 => by
    have := h.cans.room c hc
    have := (h.room (i := (cnD S.cans c).room.toNat) (by omega)).1
    exact ⟨this.1, this.2.1, this.2.2.1, this.2.2.2.1⟩
  | n + 1 => by rw [ownT]; exact warm_in h.rates (h.rmAt hK hc _).1 (h.own hK hc n)
end Go.Proofs.YtfpaihjcbpaneaaGreatDoor.D
namespace Go.Proofs.YtfpaihjcbpaneaaGreatDoor.D
set_option linter.unusedVariables false
/-- The room behind m moves, whatever their hours. -/
def atI (S : Site) (M : List Mv) (c : Nat) : Nat → Int
  | 0 => (cnD S.cans c).room
  | k + 1 => if (mvD M k).can = (c : Int) then (mvD M k).to_ else atI S M c k
def SortH (M : List Mv) : Prop := ∀ i j, i ≤ j → j < M.length → (mvD M i).hour ≤ (mvD M j).hour
theorem Kept.sort {S : Site} {M : List Mv} (h : Kept S M) : SortH M := fun i j hij hj => h.mono hij hj
theorem atI_eq {S : Site} {M : List Mv} {c : Nat} {h : Int} : ∀ {m : Nat}, (∀ i, i < m → (mvD M i).hour ≤ h) → atK S M c h m = atI S M c m
  | 0, _ => rfl
  | m + 1, hm => by
    rw [atK, atI, atI_eq fun i hi => hm i (by omega)]
    have := hm m (by omega)
    by_cases hc : (mvD M m).can = (c : Int)
    · rw [if_pos ⟨hc, this⟩, if_pos hc]
    · rw [if_neg (fun h => hc h.1), if_neg hc]
theorem atV_atI {S : Site} {M : List Mv} {c m : Nat} {h : Int} (hs : SortH M) (hm : m ≤ M.length) (h1 : ∀ i, i < m → (mvD M i).hour ≤ h) (h2 : m < M.length → h < (mvD M m).hour) : atV S M c h = atI S M c m := by
  rw [← atI_eq h1]
  unfold atV
  have : ∀ k, m ≤ k → k ≤ M.length → atK S M c h k = atK S M c h m := fun k hk hkl => by
    induction k with
    | zero => obtain rfl : m = 0 := by omega
              rfl
    | succ k ih =>
      rcases Nat.lt_or_ge k m with h' | h'
      · obtain rfl : m = k + 1 := by omega
        rfl
      · rw [atK, ih h' (by omega), if_neg]
        have := hs m k h' (by omega)
        have := h2 (by omega)
        omega
  exact this _ hm (Nat.le_refl _)
end Go.Proofs.YtfpaihjcbpaneaaGreatDoor.D
namespace Go.Proofs.YtfpaihjcbpaneaaGreatDoor.D
set_option linter.unusedVariables false
set_option linter.unusedSimpArgs false
def alB (c : UInt8) : Bool := lowB c || digB c
theorem al_45 {c : UInt8} (h : alB c = true) : c ≠ 45 := by
  rintro rfl; revert h; decide
/-- The parts between the minus signs. -/
def cutD : List UInt8 → List (List UInt8)
  | [] => [[]]
  | c :: l => if c = 45 then [] :: cutD l else match cutD l with
    | [] => [[c]]
    | h :: t => (c :: h) :: t
theorem cutD_ne (l : List UInt8) : cutD l ≠ [] := by
  cases l with
  | nil => simp [cutD]
  | cons c l =>
    rw [cutD]
    split
    · simp
    · split <;> simp
def goodP (p : List UInt8) : Bool := !p.isEmpty && p.all alB
def nmR (prev : UInt8) : List UInt8 → Bool
  | [] => true
  | c :: l => (alB c || (c == 45 && prev != 45 && !l.isEmpty)) && nmR c l
def headAl : List (List UInt8) → Bool
  | [] => true
  | h :: t => h.all alB && t.all goodP
theorem nmR_cut : ∀ l : List UInt8, (∀ prev, prev ≠ 45 → nmR prev l = headAl (cutD l)) ∧ ((!l.isEmpty && nmR 45 l) = (cutD l).all goodP)
  | [] => ⟨fun _ _ => rfl, rfl⟩
  | c :: l => by
    obtain ⟨hA, hB⟩ := nmR_cut l
    by_cases hc : c = 45
    · subst hc
      have ha : alB 45 = false := by decide
      refine ⟨fun prev hp => ?_, ?_⟩
      · rw [nmR, cutD, if_pos rfl, ha]
        have : (prev != 45) = true := by simpa using hp
        rw [this, headAl, ← hB]
        simp
      · rw [nmR, cutD, if_pos rfl, ha]
        simp [goodP]
    · have hcb : (c == 45) = false := by simpa using hc
      have hcut : ∃ h t, cutD l = h :: t := by
        cases hl : cutD l with
        | nil => exact absurd hl (cutD_ne l)
        | cons h t => exact ⟨h, t, rfl⟩
      obtain ⟨h, t, hl⟩ := hcut
      have hA' := hA c hc
      rw [hl, headAl] at hA'
      refine ⟨fun prev hp => ?_, ?_⟩
      · rw [nmR, cutD, if_neg hc, hl, hcb, hA', headAl]
        simp only [Bool.false_and, Bool.or_false, List.all_cons]
        rw [Bool.and_assoc]
      · rw [nmR, cutD, if_neg hc, hl, hcb, hA']
        simp only [Bool.false_and, Bool.or_false, List.all_cons, goodP, List.isEmpty_cons, Bool.not_false, Bool.true_and]
        rw [Bool.and_assoc]
theorem getD_app (pre l : List UInt8) (k : Nat) : (pre ++ l).getD (pre.length + k) 0 = l.getD k 0 := by
  rw [List.getD_eq_getElem?_getD, List.getD_eq_getElem?_getD, List.getElem?_append_right (by omega)]; congr 2; omega
theorem getD_pre (pre l : List UInt8) (k : Nat) (h : k < pre.length) : (pre ++ l).getD k 0 = pre.getD k 0 := by
  rw [List.getD_eq_getElem?_getD, List.getD_eq_getElem?_getD, List.getElem?_append_left h]
theorem nmR_at : ∀ (l pre : List UInt8) (p : UInt8), pre ≠ [] → pre.getD (pre.length - 1) 0 = p → (nmR p l = true ↔ ∀ k, k < l.length → nmAt (pre ++ l) (pre.length + k) = true)
  | [], pre, p, _, _ => ⟨fun _ k hk => absurd hk (Nat.not_lt_zero k), fun _ => rfl⟩
  | c :: l, pre, p, hne, hp => by
    have ih := nmR_at l (pre ++ [c]) c (by simp) (by simp)
    have e : pre ++ c :: l = (pre ++ [c]) ++ l := by simp
    have hpos : 0 < pre.length := List.length_pos_iff.2 hne
    have h0 : nmAt (pre ++ c :: l) (pre.length + 0) = (alB c || (c == 45 && p != 45 && !l.isEmpty)) := by
      unfold nmAt alB
      rw [getD_app]
      have e1 : (pre ++ c :: l).getD (pre.length + 0 - 1) 0 = p := by rw [Nat.add_zero, getD_pre _ _ _ (by omega)]; exact hp
      rw [e1]
      have e2 : decide (pre.length + 0 + 1 ≠ (pre ++ c :: l).length) = !l.isEmpty := by
        cases l with
        | nil => simp
        | cons x l => simp
      rw [e2]; rfl
    rw [nmR, Bool.and_eq_true, ih]
    constructor
    · rintro ⟨h1, h2⟩ k hk
      cases k with
      | zero => rw [h0]; exact h1
      | succ k =>
        have := h2 k (by simpa using hk)
        rw [e]
        rw [List.length_append, List.length_singleton] at this
        rw [show pre.length + (k + 1) = pre.length + 1 + k by omega]; exact this
    · intro h
      refine ⟨by rw [← h0]; exact h 0 (by simp), fun k hk => ?_⟩
      have := h (k + 1) (by simpa using hk)
      rw [e] at this
      rw [List.length_append, List.length_singleton, show pre.length + 1 + k = pre.length + (k + 1) by omega]; exact this
theorem any_nm {l : List UInt8} : anyF (fun i => !nmAt l i) l.length = false ↔ ∀ k, k < l.length → nmAt l k = true := by
  unfold anyF
  have hl := firstN_le (fun i => !nmAt l i) l.length
  have hs := firstN_spec (p := fun i => !nmAt l i) (n := l.length)
  constructor
  · intro h k hk
    have := of_decide_eq_false h
    have := hs.1 k (by omega)
    simpa using this
  · intro h
    refine decide_eq_false fun hlt => ?_
    have := hs.2 hlt
    rw [h _ hlt] at this; cases this
/-- A part is wrong. -/
def badP (l : List UInt8) : Bool := !goodP l
theorem name_cut {l : List UInt8} (h0 : l ≠ []) (h1 : lowB (l.getD 0 0) = true) : anyF (fun i => !nmAt l i) l.length = (cutD l).any badP := by
  obtain ⟨c, t, rfl⟩ : ∃ c t, l = c :: t := by cases l with | nil => exact absurd rfl h0 | cons c t => exact ⟨c, t, rfl⟩
  have hal : alB c = true := by unfold alB; rw [show lowB c = true from h1]; rfl
  have hc := al_45 hal
  have hA := (nmR_cut (c :: t)).2
  have hn : (!(c :: t).isEmpty && nmR 45 (c :: t)) = nmR c t := by
    rw [nmR, hal]; rfl
  rw [hn] at hA
  have hr := nmR_at t [c] c (by simp) rfl
  have h00 : nmAt (c :: t) 0 = true := by
    unfold nmAt
    rw [show (c :: t).getD 0 0 = c from rfl, show lowB c = true from h1]; rfl
  have hall : nmR c t = true ↔ ∀ k, k < (c :: t).length → nmAt (c :: t) k = true := by
    rw [hr]
    constructor
    · intro h k hk
      cases k with
      | zero => exact h00
      | succ k =>
        have := h k (by simpa using hk)
        rwa [List.singleton_append, List.length_singleton, Nat.add_comm] at this
    · intro h k hk
      have := h (k + 1) (by simpa using hk)
      rwa [List.singleton_append, List.length_singleton, Nat.add_comm]
  have hb : (cutD (c :: t)).any badP = !(cutD (c :: t)).all goodP := by
    have : badP = fun x => !goodP x := rfl
    rw [this, List.not_all_eq_any_not]
  rw [hb, ← hA]
  cases hm : nmR c t
  · cases hx : anyF (fun i => !nmAt (c :: t) i) (c :: t).length
    · have := hall.2 (any_nm.1 hx); rw [hm] at this; cases this
    · rfl
  · rw [any_nm.2 (hall.1 hm)]; rfl
/-- The letters and digits, as the program writes them. -/
def alphabet : List UInt8 := [97, 98, 99, 100, 101, 102, 103, 104, 105, 106, 107, 108, 109, 110, 111, 112, 113, 114, 115, 116, 117, 118, 119, 120, 121, 122, 48, 49, 50, 51, 52, 53, 54, 55, 56, 57]
theorem alphabet_has : ∀ c : Fin 256, alphabet.contains (UInt8.ofNat c.val) = alB (UInt8.ofNat c.val) := by decide +kernel
theorem alphabet_al (c : UInt8) : alphabet.contains c = alB c := by
  have := alphabet_has ⟨c.toNat, UInt8.toNat_lt c⟩
  simpa using this
theorem dropWhile_nil {p : UInt8 → Bool} : ∀ {l : List UInt8}, l.dropWhile p = [] ↔ l.all p = true
  | [] => by simp
  | c :: l => by
    rw [List.dropWhile_cons, List.all_cons]
    cases h : p c
    · simp
    · simpa using dropWhile_nil (l := l)
theorem all_dropR {p : UInt8 → Bool} (l : List UInt8) : ((l.reverse.dropWhile p).reverse).all p = l.all p := by
  rw [List.all_reverse]
  have : ∀ m : List UInt8, (m.dropWhile p).all p = m.all p := fun m => by
    induction m with
    | nil => rfl
    | cons c m ih =>
      rw [List.dropWhile_cons, List.all_cons]
      cases h : p c
      · simp [h]
      · simpa using ih
  rw [this, List.all_reverse]
theorem trim_al (l : List UInt8) : (Lib.trimS l alphabet).isEmpty = l.all alB := by
  have hp : (fun c => alphabet.contains c) = alB := funext alphabet_al
  unfold Lib.trimS Lib.trimLeftS Lib.trimRightS
  rw [hp]
  cases hl : l.all alB
  · rw [← all_dropR (p := alB)] at hl
    cases hd : ((l.reverse.dropWhile alB).reverse).dropWhile alB with
    | nil => rw [dropWhile_nil.1 hd] at hl; cases hl
    | cons => rfl
  · rw [← all_dropR (p := alB)] at hl
    rw [dropWhile_nil.2 hl]; rfl
end Go.Proofs.YtfpaihjcbpaneaaGreatDoor.D
namespace Go.Proofs.YtfpaihjcbpaneaaGreatDoor.D
set_option linter.unusedVariables false
theorem anyF_congr {p q : Nat → Bool} : ∀ {n : Nat}, (∀ i, i < n → p i = q i) → anyF p n = anyF q n
  | 0, _ => rfl
  | n + 1, h => by rw [anyF_succ, anyF_succ, anyF_congr fun i hi => h i (by omega), h n (by omega)]
/-- A site without cans, one room changed. -/
def narS (S : Site) (i : Nat) (r : Rm) (lo hi : Int) : Site := ⟨S.rooms.set i r, [], lo, hi, S.steps⟩
theorem rmD_set {l : List Rm} {i j : Nat} {r : Rm} (hi : i < l.length) : rmD (l.set i r) j = if j = i then r else rmD l j := by
  unfold rmD
  rw [List.getD_eq_getElem?_getD, List.getD_eq_getElem?_getD, List.getElem?_set]
  by_cases h : i = j
  · subst h; simp [hi]
  · rw [if_neg h, if_neg (fun h' => h h'.symm)]
theorem set_same {l : List Rm} {i : Nat} : l.set i (rmD l i) = l := by
  by_cases hi : i < l.length
  · apply List.ext_getElem?
    intro j
    rw [List.getElem?_set]
    split
    · rename_i h; subst h
      unfold rmD; rw [List.getD_eq_getElem?_getD, List.getElem?_eq_getElem hi]; rfl
    · rfl
  · exact List.set_eq_of_length_le (by omega)
theorem amt_none {S : Site} (h : S.cans = []) (wh : List Int) (r : Nat) : amt S wh r = 0 := by unfold amt; rw [h]; rfl
theorem nears_none {S : Site} (h : S.cans = []) (wh : List Int) : nears S wh = [] := by
  have hr : ∀ a b, nearB S wh a b = false := fun a b => by unfold nearB risk; rw [amt_none h, amt_none h]; rfl
  have h1 : ∀ a k, nearRow S wh a k = [] := fun a k => by
    induction k with
    | zero => rfl
    | succ k ih => rw [nearRow, ih, hr]; rfl
  have h2 : ∀ k, nearK S wh k = [] := fun k => by
    induction k with
    | zero => rfl
    | succ k ih => rw [nearK, ih, h1]; rfl
  exact h2 _
theorem chk_narrow {S : Site} (hC : Chk S) {i : Nat} {r : Rm} {lo hi : Int} (hi' : i < S.rooms.length) (hn : r.name = (rmD S.rooms i).name) (hr : roomE r = 0) (h1 : 1 ≤ lo) (h2 : lo ≤ hi) (h3 : hi ≤ 100) : Chk (narS S i r lo hi) := by
  have hname : ∀ k, (rmD (S.rooms.set i r) k).name = (rmD S.rooms k).name := fun k => by
    rw [rmD_set hi']; split
    · rename_i h; subst h; exact hn
    · rfl
  refine ⟨⟨by simpa [narS] using hC.len.1, by simp [narS], hC.len.2.2⟩, fun k hk => ?_, fun k hk => absurd hk (Nat.not_lt_zero k), ⟨⟨h1, by show lo ≤ 100; omega⟩, by show 1 ≤ hi; omega, h3⟩, h2, hC.st, fun k hk => absurd hk (Nat.not_lt_zero k), nears_none rfl _⟩
  have hk' : k < S.rooms.length := by simpa [narS] using hk
  obtain ⟨a, b, c⟩ := rm_iff.1 (hC.rm k hk')
  refine rm_iff.2 ⟨?_, ?_, ?_⟩
  · show okName (rmD (S.rooms.set i r) k).name = true
    rw [hname]; exact a
  · show twiceR (S.rooms.set i r) k = false
    rw [← b]; unfold twiceR
    exact anyF_congr fun j _ => by rw [hname, hname]
  · show roomE (rmD (S.rooms.set i r) k) = 0
    rw [rmD_set hi']; split
    · exact hr
    · exact c
theorem chk_nocans {S : Site} (hC : Chk S) : Chk ⟨S.rooms, [], S.rlo, S.rhi, S.steps⟩ := by
  have h0 : 0 < S.rooms.length := hC.len.1.1
  have := chk_narrow (i := 0) (r := rmD S.rooms 0) hC h0 rfl (rm_iff.1 (hC.rm 0 h0)).2.2 hC.rate.1.1 hC.rle hC.rate.2.2
  unfold narS at this
  rwa [set_same] at this
/-- The room of the law. -/
def lessR (r : Rm) (a b : Int) : Rm := { r with tlo := (lessS ⟨r.tlo, r.thi⟩ a).lo, thi := (lessS ⟨r.tlo, r.thi⟩ a).hi, dlo := (lessS ⟨r.dlo, r.dhi⟩ b).lo, dhi := (lessS ⟨r.dlo, r.dhi⟩ b).hi }
theorem lessR_ok {r : Rm} {a b : Int} (h : roomE r = 0) (ha : 0 ≤ a ∧ a ≤ 255) (hb : 0 ≤ b ∧ b ≤ 255) : roomE (lessR r a b) = 0 := by
  obtain ⟨⟨h1, h2, h3, h4, h5, h6, h7, h8⟩, h9, h10, h11, h12, h13⟩ := room_iff.1 h
  have p := less_in (s := ⟨r.tlo, r.thi⟩) (b := a) h9 ha.1 ha.2
  have q := less_in (s := ⟨r.dlo, r.dhi⟩) (b := b) h10 hb.1 hb.2
  simp only at p q
  refine room_iff.2 ⟨?_, ?_, ?_, h11, h12, h13⟩
  · unfold RIn lessR; simp only; omega
  · unfold lessR; simp only; omega
  · unfold lessR; simp only; omega
/-- What VaultNarrow finds. -/
structure NarV (S : Site) (t : Span) (i : Nat) (by_ : Nat → Int) : Prop where
  chkS : Chk ⟨S.rooms, [], S.rlo, S.rhi, S.steps⟩
  chkT : Chk (narS S i (lessR (rmD S.rooms i) (by_ 0) (by_ 1)) (lessS ⟨S.rlo, S.rhi⟩ (by_ 2)).lo (lessS ⟨S.rlo, S.rhi⟩ (by_ 2)).hi)
  own : spanE (lessS t (by_ 3)) = 0
  sure : wet t.hi (rmD S.rooms i).tlo (rmD S.rooms i).dlo = true → wet (lessS t (by_ 3)).hi (lessR (rmD S.rooms i) (by_ 0) (by_ 1)).tlo (lessR (rmD S.rooms i) (by_ 0) (by_ 1)).dlo = true
  may : mayS (lessS t (by_ 3)) (lessR (rmD S.rooms i) (by_ 0) (by_ 1)) = true → mayS t (rmD S.rooms i) = true
  both : wet t.hi (rmD S.rooms i).tlo (rmD S.rooms i).dlo = true → mayS t (rmD S.rooms i) = true
  warm : ∀ n, Within (warmN (narS S i (lessR (rmD S.rooms i) (by_ 0) (by_ 1)) (lessS ⟨S.rlo, S.rhi⟩ (by_ 2)).lo (lessS ⟨S.rlo, S.rhi⟩ (by_ 2)).hi) (lessR (rmD S.rooms i) (by_ 0) (by_ 1)) n (lessS t (by_ 3))) (warmN ⟨S.rooms, [], S.rlo, S.rhi, S.steps⟩ (rmD S.rooms i) n t)
theorem spanE_iff' {t : Span} : spanE t = 0 ↔ TIn t ∧ t.lo ≤ t.hi := by
  unfold spanE TIn
  have hb : (inB t.lo (-300) 600 && inB t.hi (-300) 600) = true ↔ (-300 ≤ t.lo ∧ t.lo ≤ 600) ∧ -300 ≤ t.hi ∧ t.hi ≤ 600 := by rw [Bool.and_eq_true, inB_iff, inB_iff]
  constructor
  · intro h
    split at h
    · cases h
    rename_i h1
    split at h
    · cases h
    have := hb.1 (by simpa only [Bool.not_eq_false] using h1)
    omega
  · intro h
    rw [hb.2 (by omega), if_neg (by simp), if_neg (by omega)]
theorem nar_v {S : Site} {t : Span} {i : Nat} {y : Nat → Int} (hC : Chk S) (hi : i < S.rooms.length) (ht : spanE t = 0) (hy : ∀ k, k < 4 → 0 ≤ y k ∧ y k ≤ 255) : NarV S t i y := by
  obtain ⟨⟨t1, t2, t3, t4⟩, t5⟩ := spanE_iff'.1 ht
  have hre := (rm_iff.1 (hC.rm i hi)).2.2
  obtain ⟨⟨h1, h2, h3, h4, h5, h6, h7, h8⟩, h9, h10, -⟩ := room_iff.1 hre
  have y0 := hy 0 (by omega); have y1 := hy 1 (by omega); have y2 := hy 2 (by omega); have y3 := hy 3 (by omega)
  have p := less_in (s := ⟨(rmD S.rooms i).tlo, (rmD S.rooms i).thi⟩) (b := y 0) h9 y0.1 y0.2
  have q := less_in (s := ⟨(rmD S.rooms i).dlo, (rmD S.rooms i).dhi⟩) (b := y 1) h10 y1.1 y1.2
  have o := less_in (s := t) (b := y 3) t5 y3.1 y3.2
  obtain ⟨⟨r1, r2⟩, r3, r4⟩ := hC.rate
  have u := less_in (s := ⟨S.rlo, S.rhi⟩) (b := y 2) hC.rle y2.1 y2.2
  simp only at p q u
  refine ⟨chk_nocans hC, chk_narrow hC hi rfl (lessR_ok hre y0 y1) (by omega) (by omega) (by omega), spanE_iff'.2 ⟨⟨by omega, by omega, by omega, by omega⟩, o.2.1⟩, ?_, ?_, ?_, ?_⟩
  · intro h
    refine wet_mono (by omega) o.2.2 t4 h1 (show _ ≤ (lessR (rmD S.rooms i) (y 0) (y 1)).tlo from p.1) ?_ h5 (show _ ≤ (lessR (rmD S.rooms i) (y 0) (y 1)).dlo from q.1) h
    show (lessS ⟨(rmD S.rooms i).tlo, (rmD S.rooms i).thi⟩ (y 0)).lo ≤ 600
    omega
  · intro h
    unfold mayS at h ⊢
    refine wet_mono t1 o.1 (by omega) ?_ (show (lessR (rmD S.rooms i) (y 0) (y 1)).thi ≤ _ from p.2.2) h4 ?_ (show (lessR (rmD S.rooms i) (y 0) (y 1)).dhi ≤ _ from q.2.2) h
    · show -300 ≤ (lessS ⟨(rmD S.rooms i).tlo, (rmD S.rooms i).thi⟩ (y 0)).hi
      omega
    · show 0 ≤ (lessS ⟨(rmD S.rooms i).dlo, (rmD S.rooms i).dhi⟩ (y 1)).hi
      omega
  · intro h
    unfold mayS
    exact wet_mono t1 t5 t4 h1 h9 h4 h5 h10 h
  · intro n
    exact warmN_within (S := ⟨S.rooms, [], S.rlo, S.rhi, S.steps⟩) ⟨r1, r2, r3, r4⟩ u.1 u.2.1 u.2.2 p.1 p.2.2 n ⟨o.1, o.2.2⟩
end Go.Proofs.YtfpaihjcbpaneaaGreatDoor.D
