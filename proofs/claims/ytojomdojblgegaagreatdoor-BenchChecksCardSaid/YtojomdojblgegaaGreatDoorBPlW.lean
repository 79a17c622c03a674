/-
  BenchFound and BenchClimbs, the plain half.
-/
import Derived.Test.YtojomdojblgegaaGreatDoorBPlB
namespace Go.Proofs.YtojomdojblgegaaGreatDoor.D
theorem ChainP.far : ∀ {P : List Piece} {a b : Int}, ChainP a P b → ∀ p ∈ P, ∀ q ∈ P, p.from_ < q.from_ → p.until_ < q.from_
  | [], _, _, _, p, hp => by cases hp
  | r :: R, a, b, ⟨h1, h2, h3⟩, p, hp => fun q hq hl => by
    rcases List.mem_cons.1 hp with rfl | hp'
    · rcases List.mem_cons.1 hq with rfl | hq'
      · omega
      · have := h3.mem q hq'; omega
    · rcases List.mem_cons.1 hq with rfl | hq'
      · have := h3.mem p hp'; omega
      · exact h3.far p hp' q hq' hl
theorem ChainP.find : ∀ {P : List Piece} {a b : Int}, ChainP a P b → ∀ f : Int, a ≤ f → f < b → ∃ p ∈ P, p.from_ ≤ f ∧ f ≤ p.until_
  | [], _, _, h, f, h1, h2 => by have : _ = _ := h; omega
  | r :: R, a, b, ⟨h1, h2, h3⟩, f, h4, h5 => by
    rcases Int.lt_or_le r.until_ f with h6 | h6
    · obtain ⟨p, hp, hp2⟩ := h3.find f (by omega) h5
      exact ⟨p, by simp [hp], hp2⟩
    · exact ⟨r, by simp, by omega, h6⟩
/-- Where gaps are. -/
theorem gaps_at {N : List Note} (hN : ∀ x ∈ N, NoteOk x) {F : Nat} {x : Gap} (hx : x ∈ (gapsN F N).1) : x.frame = (F : Int) ∨ ∃ p ∈ pieceK N F, p.from_ = x.frame ∧ p.leader = false := by
  have h := gaps_inv hN F
  unfold gapsN at hx
  simp only at hx
  split at hx
  · obtain rfl : x = _ := by simpa using hx
    exact .inl rfl
  · rcases List.mem_append.1 hx with hx | hx
    · exact .inr (h.mem x hx).2.2.2.2.2.2
    · obtain rfl : x = _ := by simpa using hx
      exact .inl rfl
theorem gaps_within {N : List Note} (hN : ∀ x ∈ N, NoteOk x) {F : Nat} {x : Gap} (hx : x ∈ (gapsN F N).1) {p : Piece} (hp : p ∈ pieceK N F) : ¬ (p.from_ < x.frame ∧ x.frame ≤ p.until_) := by
  have hc := (pieceK_inv N F).chain
  have hpm := hc.mem p hp
  rcases gaps_at hN hx with h | ⟨q, hq, h, -⟩
  · omega
  · intro hh
    have := hc.far p hp q hq (by omega)
    omega
theorem place_piece {N : List Note} (hN : ∀ x ∈ N, NoteOk x) {F : Nat} {all : List Grp} (hs : ∀ g ∈ all, ∀ x ∈ g.gaps, x ∈ (gapsN F N).1) {p : Piece} (hp : p ∈ pieceK N F) (hl : p.leader = false) {a : Nat} (ha : p.from_ = (a : Int)) :
    ∀ n : Nat, (a : Int) + n ≤ p.until_ → placeG N all (a + n) = ⟨(placeG N all a).lo + n, (placeG N all a).hi + n⟩
  | 0, _ => by simp
  | n + 1, h => by
    have ih := place_piece hN hs hp hl ha n (by omega)
    have hb : about N 3 ((a + n : Nat) : Int) = false := by rw [(pieceK_inv N F).lead p hp _ (by omega) (by omega), hl]
    have := place_within (l := N) (all := all) (a := a + n) hb (fun g hg x hx he => gaps_within hN (hs g hg x hx) hp ⟨by omega, by omega⟩)
    rw [← Nat.add_assoc, this, ih]
    simp only [Span.mk.injEq]
    omega
/-- A frame of picture is in one piece of picture. -/
theorem piece_of {N : List Note} {F : Nat} {f : Int} (h0 : 0 ≤ f) (h1 : f < F) (hb : about N 3 f = false) : ∃ p ∈ pieceK N F, p.leader = false ∧ p.from_ ≤ f ∧ f ≤ p.until_ := by
  have hi := pieceK_inv N F
  obtain ⟨p, hp, a, b⟩ := hi.chain.find f h0 h1
  exact ⟨p, hp, by rw [← hi.lead p hp f a b, hb], a, b⟩
def hasS (N : List Note) (all : List Grp) (wh f : Int) (p : Piece) : Prop := p.leader = false ∧ (p.from_ ≤ f ∧ f ≤ p.until_) ∧ (placeG N all p.from_.toNat).lo + (f - p.from_) ≤ wh ∧ wh ≤ (placeG N all p.from_.toNat).hi + (f - p.from_)
structure FdInv (N : List Note) (all : List Grp) (wh : Int) (P : List Piece) (b : Int) (out : List Span) : Prop where
  mem : ∀ f : Int, (∃ s ∈ out, s.lo ≤ f ∧ f ≤ s.hi) ↔ ∃ p ∈ P, hasS N all wh f p
  le : ∀ s ∈ out, s.lo ≤ s.hi ∧ s.hi < b
  far : out.Pairwise fun a b => a.hi + 1 < b.lo
theorem spD_last (Y : List Span) (z : Span) : spD (Y ++ [z]) Y.length = z := by unfold spD; simp
theorem findS_inv {N : List Note} {all : List Grp} {wh : Int} {P : List Piece} {out : List Span} {p : Piece} (h : FdInv N all wh P p.from_ out) (hp : p.from_ ≤ p.until_) : FdInv N all wh (P ++ [p]) (p.until_ + 1) (findS N all wh out p) := by
  have hle : ∀ s ∈ out, s.lo ≤ s.hi ∧ s.hi < p.until_ + 1 := fun s hs => by have := h.le s hs; omega
  unfold findS
  cases hl : p.leader with
  | true =>
    rw [if_pos rfl]
    refine ⟨fun f => (h.mem f).trans ⟨fun ⟨q, hq, h1⟩ => ⟨q, by simp [hq], h1⟩, fun ⟨q, hq, h1⟩ => ?_⟩, hle, h.far⟩
    rcases List.mem_append.1 hq with hq | hq
    · exact ⟨q, hq, h1⟩
    · obtain rfl : q = p := by simpa using hq
      rw [h1.1] at hl; cases hl
  | false =>
    rw [if_neg (by simp)]
    obtain ⟨A, hA⟩ : ∃ A, A = placeG N all p.from_.toNat := ⟨_, rfl⟩
    rw [← hA]
    obtain ⟨s, hs⟩ : ∃ s, s = comS ⟨p.from_, p.until_⟩ ⟨p.from_ + wh - A.hi, p.from_ + wh - A.lo⟩ := ⟨_, rfl⟩
    have hin : ∀ f : Int, (s.lo ≤ f ∧ f ≤ s.hi) ↔ hasS N all wh f p := fun f => by
      rw [hs]; unfold comS hasS; rw [← hA, hl]; simp only [true_and]; omega
    have hsb : p.from_ ≤ s.lo ∧ s.hi ≤ p.until_ := by rw [hs]; unfold comS; simp only; omega
    dsimp only
    rw [← hs]
    clear hA hs
    have hmem : ∀ f : Int, (∃ q ∈ P ++ [p], hasS N all wh f q) ↔ (∃ s ∈ out, s.lo ≤ f ∧ f ≤ s.hi) ∨ (s.lo ≤ f ∧ f ≤ s.hi) := fun f => by
      rw [h.mem f, hin f]
      constructor
      · rintro ⟨q, hq, h1⟩
        rcases List.mem_append.1 hq with hq | hq
        · exact .inl ⟨q, hq, h1⟩
        · obtain rfl : q = p := by simpa using hq
          exact .inr h1
      · rintro (⟨q, hq, h1⟩ | h1)
        · exact ⟨q, by simp [hq], h1⟩
        · exact ⟨p, by simp, h1⟩
    by_cases h1 : s.hi < s.lo
    · rw [if_pos h1]
      refine ⟨fun f => ?_, hle, h.far⟩
      rw [hmem f]
      constructor
      · exact .inl
      · rintro (h2 | h2)
        · exact h2
        · omega
    · rw [if_neg h1]
      rcases List.eq_nil_or_concat out with h0 | ⟨Y, z, h0⟩
      · subst h0
        rw [if_neg (by simp)]
        refine ⟨fun f => ?_, fun t ht => ?_, by simp⟩
        · rw [hmem f]; simp
        · obtain rfl : t = s := by simpa using ht
          omega
      · rw [List.concat_eq_append] at h0
        subst h0
        have e : (Y ++ [z]).length - 1 = Y.length := by simp
        rw [e, spD_last]
        have hz := h.le z (by simp)
        obtain ⟨f1, -, f2⟩ := List.pairwise_append.1 h.far
        by_cases h2 : z.hi = s.lo - 1
        · rw [if_pos ⟨by simp, h2⟩, show (Y ++ [z]).set Y.length { z with hi := s.hi } = Y ++ [{ z with hi := s.hi }] by simp]
          refine ⟨fun f => ?_, fun t ht => ?_, List.pairwise_append.2 ⟨f1, by simp, fun a ha b hb => ?_⟩⟩
          · rw [hmem f]
            constructor
            · rintro ⟨t, ht, h3⟩
              rcases List.mem_append.1 ht with ht | ht
              · exact .inl ⟨t, by simp [ht], h3⟩
              · obtain rfl : t = _ := by simpa using ht
                simp only at h3
                rcases Int.lt_or_le z.hi f with h4 | h4
                · exact .inr (by omega)
                · exact .inl ⟨z, by simp, by omega⟩
            · rintro (⟨t, ht, h3⟩ | h3)
              · rcases List.mem_append.1 ht with ht | ht
                · exact ⟨t, by simp [ht], h3⟩
                · obtain rfl : t = z := by simpa using ht
                  exact ⟨{ t with hi := s.hi }, by simp, by simp only; omega⟩
              · exact ⟨{ z with hi := s.hi }, by simp, by simp only; omega⟩
          · rcases List.mem_append.1 ht with ht | ht
            · exact hle t (by simp [ht])
            · obtain rfl : t = _ := by simpa using ht
              simp only; omega
          · obtain rfl : b = _ := by simpa using hb
            exact f2 a ha z (by simp)
        · rw [if_neg (fun hc => h2 hc.2)]
          refine ⟨fun f => ?_, fun t ht => ?_, List.pairwise_append.2 ⟨h.far, by simp, fun a ha b hb => ?_⟩⟩
          · rw [hmem f]
            constructor
            · rintro ⟨t, ht, h3⟩
              rcases List.mem_append.1 ht with ht | ht
              · exact .inl ⟨t, ht, h3⟩
              · obtain rfl : t = s := by simpa using ht
                exact .inr h3
            · rintro (⟨t, ht, h3⟩ | h3)
              · exact ⟨t, List.mem_append_left _ ht, h3⟩
              · exact ⟨s, by simp, h3⟩
          · rcases List.mem_append.1 ht with ht | ht
            · exact hle t ht
            · obtain rfl : t = s := by simpa using ht
              omega
          · obtain rfl : b = s := by simpa using hb
            rcases List.mem_append.1 ha with ha' | ha'
            · have a1 := f2 a ha' z (by simp)
              omega
            · obtain rfl : a = z := by simpa using ha'
              omega
theorem findF_inv {N : List Note} {all : List Grp} {wh : Int} : ∀ {P : List Piece} {a b : Int} {Q : List Piece} {out : List Span}, ChainP a P b → FdInv N all wh Q a out → FdInv N all wh (Q ++ P) b (P.foldl (findS N all wh) out)
  | [], a, b, Q, out, h, hi => by rw [List.append_nil, ← (show a = b from h)]; exact hi
  | p :: r, a, b, Q, out, ⟨h1, h2, h3⟩, hi => by
    rw [List.foldl_cons, show Q ++ p :: r = (Q ++ [p]) ++ r by simp]
    exact findF_inv h3 (findS_inv (by rw [h1]; exact hi) h2)
theorem findV_inv (N : List Note) (F : Nat) (all : List Grp) (wh : Int) : FdInv N all wh (pieceK N F) F (findV N F all wh) := by
  have := findF_inv (N := N) (all := all) (wh := wh) (Q := []) (out := []) (pieceK_inv N F).chain ⟨fun f => by simp, fun s hs => by simp at hs, List.Pairwise.nil⟩
  simpa [findV] using this
/-- What Find returns for a frame of the whole picture are just the frames in whose Place it is. -/
theorem found_has {N : List Note} (hN : ∀ x ∈ N, NoteOk x) {F : Nat} {all : List Grp} (hs : ∀ g ∈ all, ∀ x ∈ g.gaps, x ∈ (gapsN F N).1) (wh f : Int) :
    (∃ s ∈ findV N F all wh, s.lo ≤ f ∧ f ≤ s.hi) ↔ (0 ≤ f ∧ f < F) ∧ about N 3 f = false ∧ (placeG N all f.toNat).lo ≤ wh ∧ wh ≤ (placeG N all f.toNat).hi := by
  rw [(findV_inv N F all wh).mem f]
  have hi := pieceK_inv N F
  have key : ∀ p ∈ pieceK N F, p.leader = false → p.from_ ≤ f → f ≤ p.until_ → (placeG N all f.toNat).lo = (placeG N all p.from_.toNat).lo + (f - p.from_) ∧ (placeG N all f.toNat).hi = (placeG N all p.from_.toNat).hi + (f - p.from_) := fun p hp hl a b => by
    have h0 := hi.chain.mem p hp
    have := place_piece hN hs hp hl (a := p.from_.toNat) (by omega) (f - p.from_).toNat (by omega)
    rw [show p.from_.toNat + (f - p.from_).toNat = f.toNat by omega] at this
    rw [this]
    simp only
    omega
  constructor
  · rintro ⟨p, hp, hl, ⟨a, b⟩, c, d⟩
    have h0 := hi.chain.mem p hp
    obtain ⟨k1, k2⟩ := key p hp hl a b
    exact ⟨by omega, by rw [hi.lead p hp f a b, hl], by omega, by omega⟩
  · rintro ⟨⟨h0, h1⟩, hb, c, d⟩
    obtain ⟨p, hp, hl, a, b⟩ := piece_of h0 h1 hb
    obtain ⟨k1, k2⟩ := key p hp hl a b
    exact ⟨p, hp, hl, ⟨a, b⟩, by omega, by omega⟩
theorem sum_map_nonneg {α : Type} {f : α → Int} {l : List α} (h : ∀ x ∈ l, 0 ≤ f x) : 0 ≤ (l.map f).sum := by
  induction l with
  | nil => simp
  | cons x l ih =>
    have := h x (by simp); have := ih fun y hy => h y (by simp [hy])
    rw [List.map_cons, List.sum_cons]; omega
/-- A place is not below 0, and not empty. -/
theorem place_ok {l : List Note} {all : List Grp} (hg : ∀ g ∈ all, (∀ x ∈ g.gaps, 0 ≤ x.lo ∧ x.lo ≤ x.hi) ∧ g.is.lo ≤ g.is.hi ∧ grpOk g = true) (f : Nat) : (placeG l all f).lo ≤ (placeG l all f).hi ∧ 0 ≤ (placeG l all f).lo := by
  rw [placeG_eq]
  have h1 := sum_map_le (f := fun g => (partG g (partF f)).lo) (g := fun g => (partG g (partF f)).hi) (l := all) fun g hgm => part_some (fun x hx => ((hg g hgm).1 x hx).2) (hg g hgm).2.1 (hg g hgm).2.2 _
  have h2 := sum_map_nonneg (f := fun g => (partG g (partF f)).lo) (l := all) fun g hgm => by
    have h3 : 0 ≤ (endsS (g.gaps.filter (partF f))).lo := by
      rw [endsS_eq]; exact sumG_nonneg fun x hx => ((hg g hgm).1 x (List.mem_filter.1 hx).1).1
    unfold partG comS
    simp only
    omega
  have h3 := picB_in l f
  simp only
  omega
theorem find_no {T : Task} {wh : Int} (h : (findAns T wh).2 ≠ 0) : (findAns T wh).1 = [] := by
  unfold findAns at h ⊢
  split
  · rfl
  · split
    · rfl
    · split
      · rfl
      · rename_i h1 h2 h3
        rw [if_neg h1, if_neg h2, if_neg h3] at h
        exact absurd rfl h
def hitB (x : Int) (s : Span) : Bool := decide (s.lo ≤ x) && decide (x ≤ s.hi)
structure FoundA (T : Task) (wh x : Int) (L : List Span) (A : Span × Int) : Prop where
  ord : ∀ i, i < L.length → (spD L i).lo ≤ (spD L i).hi ∧ 0 ≤ (spD L i).lo ∧ (spD L i).hi ≤ 200000
  far : ∀ i, 0 < i → i < L.length → (spD L (i - 1)).hi + 1 < (spD L i).lo
  eq : L.any (hitB x) = (decide (A.2 = 0) && decide (A.1.lo ≤ wh) && decide (wh ≤ A.1.hi))
theorem spD_get {l : List Span} {i : Nat} (h : i < l.length) : spD l i = l[i] := by unfold spD; rw [List.getD_eq_getElem?_getD, List.getElem?_eq_getElem h]; rfl
theorem found_all {T : Task} {wh : Int} (h : (findAns T wh).2 = 0) (x : Int) : FoundA T wh x (findAns T wh).1 (placeAns T x) := by
  unfold findAns at h ⊢
  by_cases h1 : (checkV T).2.2 ≠ 0
  · rw [if_pos h1] at h; exact absurd h h1
  · rw [if_neg h1] at h ⊢
    by_cases h2 : inB wh 0 399999 = false
    · rw [if_pos h2] at h; cases h
    · rw [if_neg h2] at h ⊢
      by_cases h3 : okT T = false
      · rw [if_pos h3] at h; cases h
      · rw [if_neg h3] at h ⊢
        have hp := task_p (T := T) (Decidable.not_not.1 h1)
        obtain ⟨F, hF⟩ : ∃ F, F = T.reel.frames.toNat := ⟨_, rfl⟩
        rw [← hF] at hp ⊢
        have hfr := hp.fr
        simp only
        have hs : ∀ g ∈ (grpsT T).1, ∀ y ∈ g.gaps, y ∈ (gapsN F (standV T.notes)).1 := fun g hg y hy => by rw [← hp.eg]; exact hp.part.sub g hg y hy
        have hinv := findV_inv (standV T.notes) F (grpsT T).1 wh
        have hfh := found_has hp.st hs wh x
        obtain ⟨L, hL⟩ : ∃ L, L = findV (standV T.notes) F (grpsT T).1 wh := ⟨_, rfl⟩
        rw [← hL] at hinv hfh ⊢
        have hord : ∀ s ∈ L, s.lo ≤ s.hi ∧ 0 ≤ s.lo ∧ s.hi ≤ 200000 := fun s hs => by
          have h5 := hinv.le s hs
          obtain ⟨p, hp1, hp2⟩ := (hinv.mem s.lo).1 ⟨s, hs, Int.le_refl _, h5.1⟩
          have h6 := (pieceK_inv (standV T.notes) F).chain.mem p hp1
          have h7 := hp2.2.1
          have := hp.F1
          omega
        refine ⟨fun i hi => by rw [spD_get hi]; exact hord _ (List.getElem_mem hi), fun i h0 hi => ?_, ?_⟩
        · rw [spD_get hi, spD_get (show i - 1 < L.length by omega)]
          exact List.pairwise_iff_getElem.1 hinv.far (i - 1) i (by omega) hi (by omega)
        · have hpl : placeAns T x = if inB x 0 ((F : Int) - 1) = false then (⟨0, 0⟩, 7) else if about (standV T.notes) 3 x = true then (⟨0, 0⟩, 4) else (placeG (standV T.notes) (grpsT T).1 x.toNat, 0) := by
            unfold placeAns
            rw [if_neg h1, hfr, if_neg h3]
          rw [Bool.eq_iff_iff, List.any_eq_true]
          constructor
          · rintro ⟨s, hs1, hs2⟩
            unfold hitB at hs2
            simp only [Bool.and_eq_true, decide_eq_true_eq] at hs2
            obtain ⟨a, b, c, d⟩ := hfh.1 ⟨s, hs1, hs2⟩
            rw [hpl, if_neg (by rw [inB_iff.2 (by omega)]; simp), if_neg (by rw [b]; simp)]
            simp [c, d]
          · intro hh
            simp only [Bool.and_eq_true, decide_eq_true_eq] at hh
            rw [hpl] at hh
            by_cases g1 : inB x 0 ((F : Int) - 1) = false
            · rw [if_pos g1] at hh; exact absurd hh.1.1 (by decide)
            · rw [if_neg g1] at hh
              by_cases g2 : about (standV T.notes) 3 x = true
              · rw [if_pos g2] at hh; exact absurd hh.1.1 (by decide)
              · rw [if_neg g2] at hh
                have g3 := inB_iff.1 (by simpa using g1 : inB x 0 ((F : Int) - 1) = true)
                obtain ⟨s, hs1, hs2⟩ := hfh.2 ⟨by omega, by simpa using g2, hh.1.2, hh.2⟩
                exact ⟨s, hs1, by unfold hitB; simp [hs2.1, hs2.2]⟩
theorem any_take {α : Type} {p : α → Bool} {d : α} {l : List α} {k : Nat} (hk : k < l.length) : (l.take (k + 1)).any p = ((l.take k).any p || p (l.getD k d)) := by
  rw [List.take_succ_eq_append_getElem hk, List.any_append]
  simp [List.getD_eq_getElem?_getD, List.getElem?_eq_getElem hk]
end Go.Proofs.YtojomdojblgegaaGreatDoor.D
