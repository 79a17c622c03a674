/-
  BenchNarrow, the plain half.
-/
import Derived.Test.YtapeakbngligaaaGreatDoorBPlB
namespace Go.Proofs.YtapeakbngligaaaGreatDoor.D
set_option linter.unusedVariables false
def All2 {α β : Type} (R : α → β → Prop) : List α → List β → Prop
  | [], [] => True
  | a :: l, b :: m => R a b ∧ All2 R l m
  | _, _ => False
theorem All2.len {α β : Type} {R : α → β → Prop} : ∀ {l : List α} {m : List β}, All2 R l m → l.length = m.length
  | [], [], _ => rfl
  | a :: l, b :: m, h => by have := h.2.len; simp [this]
  | [], b :: m, h => h.elim
  | a :: l, [], h => h.elim
theorem All2.get {α β : Type} {R : α → β → Prop} : ∀ {l : List α} {m : List β}, All2 R l m → ∀ i (h1 : i < l.length) (h2 : i < m.length), R l[i] m[i]
  | a :: l, b :: m, h, 0, _, _ => h.1
  | a :: l, b :: m, h, i + 1, h1, h2 => h.2.get i (by simpa using h1) (by simpa using h2)
  | [], _, _, i, h1, _ => by simp at h1
  | a :: l, [], h, _, _, _ => h.elim
theorem All2.mk {α β : Type} {R : α → β → Prop} : ∀ {l : List α} {m : List β}, l.length = m.length → (∀ i (h1 : i < l.length) (h2 : i < m.length), R l[i] m[i]) → All2 R l m
  | [], [], _, _ => trivial
  | a :: l, b :: m, h, g => ⟨g 0 (by simp) (by simp), All2.mk (by simpa using h) fun i h1 h2 => g (i + 1) (by simpa using h1) (by simpa using h2)⟩
  | [], b :: m, h, _ => by simp at h
  | a :: l, [], h, _ => by simp at h
theorem All2.app {α β : Type} {R : α → β → Prop} : ∀ {l : List α} {m : List β} {l2 : List α} {m2 : List β}, All2 R l m → All2 R l2 m2 → All2 R (l ++ l2) (m ++ m2)
  | [], [], _, _, _, h => h
  | a :: l, b :: m, _, _, h, g => ⟨h.1, h.2.app g⟩
  | [], b :: m, _, _, h, _ => h.elim
  | a :: l, [], _, _, h, _ => h.elim
theorem All2.rfl {α : Type} {R : α → α → Prop} (h : ∀ a, R a a) : ∀ l : List α, All2 R l l
  | [] => trivial
  | a :: l => ⟨h a, All2.rfl h l⟩
theorem All2.mem {α β : Type} {R : α → β → Prop} : ∀ {l : List α} {m : List β}, All2 R l m → ∀ b ∈ m, ∃ a ∈ l, R a b
  | [], [], _, b, hb => by cases hb
  | a :: l, c :: m, h, b, hb => by
    rcases List.mem_cons.1 hb with rfl | hb
    · exact ⟨a, by simp, h.1⟩
    · obtain ⟨x, hx, hr⟩ := h.2.mem b hb
      exact ⟨x, by simp [hx], hr⟩
  | [], b :: m, h, _, _ => h.elim
  | a :: l, [], h, _, _ => h.elim
/-- A gap is the same, and not wider. -/
def NarX (x' x : Gap) : Prop := x'.frame = x.frame ∧ x'.kind = x.kind ∧ x.lo ≤ x'.lo ∧ x'.hi ≤ x.hi
theorem narX_rfl (x : Gap) : NarX x x := ⟨rfl, rfl, Int.le_refl _, Int.le_refl _⟩
structure NarG (g' g : Grp) : Prop where
  gaps : All2 NarX g'.gaps g.gaps
  lo : g.is.lo ≤ g'.is.lo
  hi : g'.is.hi ≤ g.is.hi
theorem narG_rfl (g : Grp) : NarG g g := ⟨All2.rfl narX_rfl _, Int.le_refl _, Int.le_refl _⟩
theorem nar_filter {p : Gap → Bool} (hp : ∀ x y : Gap, x.frame = y.frame → p x = p y) : ∀ {l m : List Gap}, All2 NarX l m → All2 NarX (l.filter p) (m.filter p)
  | [], [], _ => trivial
  | a :: l, b :: m, h => by
    have ih := nar_filter hp h.2
    have e := hp a b h.1.1
    rw [List.filter_cons, List.filter_cons, e]
    split
    · exact ⟨h.1, ih⟩
    · exact ih
  | [], b :: m, h => h.elim
  | a :: l, [], h => h.elim
theorem nar_sum : ∀ {l m : List Gap}, All2 NarX l m → sumG (·.lo) m ≤ sumG (·.lo) l ∧ sumG (·.hi) l ≤ sumG (·.hi) m
  | [], [], _ => by simp [sumG]
  | a :: l, b :: m, h => by
    have ih := nar_sum h.2
    have h1 := h.1.2.2
    simp only [sumG]; omega
  | [], b :: m, h => h.elim
  | a :: l, [], h => h.elim
theorem nar_ends {l m : List Gap} (h : All2 NarX l m) : (endsS m).lo ≤ (endsS l).lo ∧ (endsS l).hi ≤ (endsS m).hi := by rw [endsS_eq, endsS_eq]; exact nar_sum h
theorem nar_part {g' g : Grp} (h : NarG g' g) {p : Gap → Bool} (hp : ∀ x y : Gap, x.frame = y.frame → p x = p y) : (partG g p).lo ≤ (partG g' p).lo ∧ (partG g' p).hi ≤ (partG g p).hi := by
  have h1 := nar_ends (nar_filter hp h.gaps)
  have h2 := nar_ends (nar_filter (p := fun x => !p x) (fun x y e => by rw [hp x y e]) h.gaps)
  have a := h.lo; have b := h.hi
  unfold partG comS
  simp only
  omega
theorem nar_ans {gs' gs : List Gap} {all' all : List Grp} (hp' : PartOk gs' all') (hp : PartOk gs all) (hx : All2 NarX gs' gs) (hg : All2 NarG all' all) : All2 NarX (ansV gs' all') (ansV gs all) := by
  refine All2.mk (by rw [ansV_len, ansV_len, hx.len]) fun i h1 h2 => ?_
  simp only [ansV, List.getElem_map]
  rw [ansV_len] at h1 h2
  have hi := hx.get i h1 h2
  obtain ⟨g, hgm, hxg⟩ := hp.cov gs[i] (List.getElem_mem h2)
  obtain ⟨g', hg', hr⟩ := hg.mem g hgm
  obtain ⟨y, hy, hyr⟩ := hr.gaps.mem gs[i] hxg
  have hyx : y = gs'[i] := inFr_same hp'.ord (hp'.sub g' hg' y hy) (List.getElem_mem h1) (by rw [hyr.1, hi.1])
  subst hyx
  rw [hp.of hgm hxg, hp'.of hg' hy]
  have := nar_part hr (p := fun y => decide (y.frame = gs[i].frame)) fun x y e => by rw [e]
  refine ⟨hi.1, hi.2.1, ?_, ?_⟩
  · show (partG g _).lo ≤ (partG g' _).lo
    rw [show (fun y : Gap => decide (y.frame = gs'[i].frame)) = fun y => decide (y.frame = gs[i].frame) by rw [hi.1]]
    exact this.1
  · show (partG g' _).hi ≤ (partG g _).hi
    rw [show (fun y : Gap => decide (y.frame = gs'[i].frame)) = fun y => decide (y.frame = gs[i].frame) by rw [hi.1]]
    exact this.2
/-- As the law asks: the same gaps, none of the others wider. -/
def holdsP (a b : List Gap) : Prop := a.length = b.length ∧ ∀ i, i < a.length → (gpD a i).frame = (gpD b i).frame ∧ (gpD a i).kind = (gpD b i).kind ∧ (gpD a i).lo ≤ (gpD b i).lo ∧ (gpD b i).hi ≤ (gpD a i).hi
theorem nar_holds {a b : List Gap} (h : All2 NarX b a) : holdsP a b := by
  refine ⟨h.len.symm, fun i hi => ?_⟩
  have h2 : i < b.length := by rw [h.len]; exact hi
  have := h.get i h2 hi
  rw [gpD_get hi, gpD_get h2]
  exact ⟨this.1.symm, this.2.1.symm, this.2.2.1, this.2.2.2⟩
/-- A narrower whole. -/
theorem whole_nar {foot : Int} {F : Nat} {N : List Note} {gs : List Gap} {ms : List Mark} {w w' : Span} (h1 : w.lo ≤ w'.lo) (h2 : w'.hi ≤ w.hi) : All2 NarG (grpsV foot F N gs ms w').1 (grpsV foot F N gs ms w).1 := by
  rw [grpsV_eq, grpsV_eq]
  refine All2.app (All2.rfl narG_rfl _) ⟨⟨All2.rfl narX_rfl _, ?_, ?_⟩, trivial⟩
  · simp only; omega
  · simp only; omega
structure NarK (st' st : Grps) : Prop where
  all : All2 NarG st'.all st.all
  wrong : st'.wrong = st.wrong
  left : st'.left = st.left
  rest : All2 NarX st'.rest st.rest
theorem betw_fr (a b : Mark) (x y : Gap) (h : x.frame = y.frame) : betw a b x = betw a b y := by unfold betw; rw [h]
/-- Narrower gaps: each mark that was wrong is; if no further one is, the groups are the same ones, and narrower. -/
theorem grpsK_nar {foot : Int} {F : Nat} {N : List Note} {gs' gs : List Gap} {ms : List Mark} (h : All2 NarX gs' gs) : ∀ k, (grpsK foot F N gs ms k).wrong.length ≤ (grpsK foot F N gs' ms k).wrong.length ∧ ((grpsK foot F N gs' ms k).wrong.length ≤ (grpsK foot F N gs ms k).wrong.length → NarK (grpsK foot F N gs' ms k) (grpsK foot F N gs ms k))
  | 0 => ⟨Nat.le_refl _, fun _ => ⟨trivial, rfl, rfl, h⟩⟩
  | k + 1 => by
    obtain ⟨i1, i2⟩ := grpsK_nar (foot := foot) (F := F) (N := N) (ms := ms) h k
    rw [grpsK_succ, grpsK_succ]
    obtain ⟨s, hs⟩ : ∃ s, s = grpsK foot F N gs ms k := ⟨_, rfl⟩
    obtain ⟨s', hs'⟩ : ∃ s, s = grpsK foot F N gs' ms k := ⟨_, rfl⟩
    rw [← hs, ← hs'] at i1 i2
    rw [← hs, ← hs']
    clear hs hs'
    have hf := nar_filter (p := betw (mkD ms (k - 1)) (mkD ms k)) (betw_fr _ _) h
    have he := nar_ends hf
    unfold grpS
    split
    · exact ⟨i1, i2⟩
    · obtain ⟨n, hn⟩ : ∃ n, n = missN foot N (mkD ms (k - 1)) (mkD ms k) := ⟨_, rfl⟩
      rw [← hn]
      by_cases h1 : inB n (endsS (gs.filter (betw (mkD ms (k - 1)) (mkD ms k)))).lo (endsS (gs.filter (betw (mkD ms (k - 1)) (mkD ms k)))).hi = false
      · have h2 : inB n (endsS (gs'.filter (betw (mkD ms (k - 1)) (mkD ms k)))).lo (endsS (gs'.filter (betw (mkD ms (k - 1)) (mkD ms k)))).hi = false := by
          cases hc : inB n (endsS (gs'.filter (betw (mkD ms (k - 1)) (mkD ms k)))).lo (endsS (gs'.filter (betw (mkD ms (k - 1)) (mkD ms k)))).hi
          · rfl
          · have := inB_iff.1 hc
            rw [inB_iff.2 (by omega)] at h1; cases h1
        rw [if_pos h1, if_pos h2]
        refine ⟨by simpa using i1, fun hl => ?_⟩
        have hk := i2 (by simpa using hl)
        exact ⟨hk.all, by simp only; rw [hk.wrong], hk.left, hk.rest⟩
      · rw [if_neg h1]
        by_cases h2 : inB n (endsS (gs'.filter (betw (mkD ms (k - 1)) (mkD ms k)))).lo (endsS (gs'.filter (betw (mkD ms (k - 1)) (mkD ms k)))).hi = false
        · rw [if_pos h2]
          refine ⟨by simp; omega, fun hl => ?_⟩
          simp at hl; omega
        · rw [if_neg h2]
          refine ⟨i1, fun hl => ?_⟩
          have hk := i2 hl
          exact ⟨hk.all.app ⟨⟨hf, Int.le_refl _, Int.le_refl _⟩, trivial⟩, hk.wrong, by simp only; rw [hk.left], nar_filter (p := fun x => !betw (mkD ms (k - 1)) (mkD ms k) x) (fun x y e => by rw [betw_fr _ _ x y e]) hk.rest⟩
theorem grpsV_nar {foot : Int} {F : Nat} {N : List Note} {gs' gs : List Gap} {ms : List Mark} {w : Span} (h : All2 NarX gs' gs) (hl : (grpsV foot F N gs' ms w).2.length ≤ (grpsV foot F N gs ms w).2.length) : All2 NarG (grpsV foot F N gs' ms w).1 (grpsV foot F N gs ms w).1 := by
  rw [grpsV_eq, grpsV_eq] at hl ⊢
  have hk := (grpsK_nar (foot := foot) (F := F) (N := N) (ms := ms) h ms.length).2 hl
  refine hk.all.app ⟨⟨hk.rest, ?_, ?_⟩, trivial⟩
  · simp only; rw [hk.left]; exact Int.le_refl _
  · simp only; rw [hk.left]; exact Int.le_refl _
theorem picB_congr {N N' : List Note} (h : ∀ f, about N' 3 f = about N 3 f) : ∀ n, picB N' n = picB N n
  | 0 => rfl
  | n + 1 => by rw [picB, picB, h, picB_congr h n]
theorem grpS_congr {N N' : List Note} (h : ∀ f, about N' 3 f = about N 3 f) (foot : Int) (gs : List Gap) (ms : List Mark) (st : Grps) (i : Nat) : grpS foot N' gs ms st i = grpS foot N gs ms st i := by
  have hm : ∀ a b, missN foot N' a b = missN foot N a b := fun a b => by unfold missN; rw [picB_congr h, picB_congr h]
  unfold grpS
  simp only [h, hm]
theorem grpsK_congr {N N' : List Note} (h : ∀ f, about N' 3 f = about N 3 f) (foot : Int) (F : Nat) (gs : List Gap) (ms : List Mark) : ∀ k, grpsK foot F N' gs ms k = grpsK foot F N gs ms k
  | 0 => by unfold grpsK; simp [picB_congr h]
  | k + 1 => by rw [grpsK_succ, grpsK_succ, grpS_congr h, grpsK_congr h foot F gs ms k]
theorem grpsV_congr {N N' : List Note} (h : ∀ f, about N' 3 f = about N 3 f) (foot : Int) (F : Nat) (gs : List Gap) (ms : List Mark) (w : Span) : grpsV foot F N' gs ms w = grpsV foot F N gs ms w := by
  rw [grpsV_eq, grpsV_eq, grpsK_congr h]
theorem pieceK_congr {N N' : List Note} (h3 : ∀ f, about N' 3 f = about N 3 f) (h1 : ∀ f, about N' 1 f = about N 1 f) : ∀ n, pieceK N' n = pieceK N n
  | 0 => rfl
  | n + 1 => by rw [pieceK, pieceK, pieceK_congr h3 h1 n, h3, h1]
/-- A further note among the notes that stand. -/
theorem stand_more {l : List Note} {z : Note} (hz : ∀ y ∈ l, y.by_ ≠ z.by_) : ∃ A B, standV l = A ++ B ∧ standV (l ++ [z]) = A ++ z :: B ∧ (∀ x ∈ A, ordV x z < 0) ∧ ∀ x ∈ B, ordV z x < 0 := by
  have hmem : ∀ x, x ∈ standV (l ++ [z]) ↔ x = z ∨ x ∈ standV l := fun x => by
    rw [standV_mem, standV_mem, standsB_iff, standsB_iff, List.mem_append, List.mem_singleton]
    constructor
    · rintro ⟨a | a, b⟩
      · exact .inr ⟨a, fun y hy => b y (by simp [hy])⟩
      · exact .inl a
    · rintro (rfl | ⟨a, b⟩)
      · refine ⟨.inr rfl, fun y hy h1 h2 => ?_⟩
        rcases List.mem_append.1 hy with hy | hy
        · exact absurd h1 (hz y hy)
        · obtain rfl : y = x := by simpa using hy
          exact ⟨Int.le_refl _, fun _ => rfl⟩
      · refine ⟨.inl a, fun y hy h1 h2 => ?_⟩
        rcases List.mem_append.1 hy with hy | hy
        · exact b y hy h1 h2
        · obtain rfl : y = z := by simpa using hy
          exact absurd h1.symm (hz x a)
  have hzin := (hmem z).2 (.inl rfl)
  obtain ⟨A, B, hAB⟩ := List.append_of_mem hzin
  have ho := standV_ord (l ++ [z])
  rw [hAB] at ho
  obtain ⟨o1, o2, o3⟩ := List.pairwise_append.1 ho
  have o2' := List.pairwise_cons.1 o2
  have hA : ∀ x ∈ A, ordV x z < 0 := fun x hx => o3 x hx z (by simp)
  have hirr : ¬ ordV z z < 0 := by rw [ordV_zero.2 rfl]; omega
  refine ⟨A, B, inOrd_uniq (standV_ord l) (List.pairwise_append.2 ⟨o1, o2'.2, fun x hx y hy => o3 x hx y (by simp [hy])⟩) fun x => ?_, hAB, hA, o2'.1⟩
  have hx := hmem x
  rw [hAB] at hx
  constructor
  · intro h
    have h1 := hx.2 (.inr h)
    rcases List.mem_append.1 h1 with h1 | h1
    · exact List.mem_append_left _ h1
    · rcases List.mem_cons.1 h1 with rfl | h1
      · exact absurd rfl (hz x (standV_mem.1 h).1)
      · exact List.mem_append_right _ h1
  · intro h
    have h1 : x ∈ A ++ z :: B := by
      rcases List.mem_append.1 h with h | h
      · exact List.mem_append_left _ h
      · exact List.mem_append_right _ (List.mem_cons_of_mem _ h)
    rcases hx.1 h1 with rfl | h2
    · rcases List.mem_append.1 h with h | h
      · exact absurd (hA x h) hirr
      · exact absurd (o2'.1 x h) hirr
    · exact h2
theorem told_skip {f : Int} : ∀ {B : List Note} {t : Told}, (∀ x ∈ B, x.kind ≠ 1 ∨ x.from_ ≠ f) → B.foldl (toldS f) t = t
  | [], _, _ => rfl
  | x :: B, t, h => by
    rw [List.foldl_cons, show toldS f t x = t from by unfold toldS; rw [if_pos (h x (by simp))]]
    exact told_skip fun y hy => h y (by simp [hy])
theorem told_more {A B : List Note} {z : Note} {f : Int} (hB : f = z.from_ → ∀ x ∈ B, x.kind ≠ 1 ∨ x.from_ ≠ f) : toldV (A ++ z :: B) f = toldS f (toldV (A ++ B) f) z := by
  unfold toldV
  rw [List.foldl_append, List.foldl_cons, List.foldl_append]
  by_cases h : f = z.from_
  · rw [told_skip (hB h), told_skip (hB h)]
  · have e : ∀ t, toldS f t z = t := fun t => by unfold toldS; rw [if_pos (.inr (fun e => h e.symm))]
    rw [e, e]
theorem told_other {f : Int} {t : Told} {z : Note} (h : f ≠ z.from_) : toldS f t z = t := by unfold toldS; rw [if_pos (.inr fun e => h e.symm)]
theorem about_more {A B : List Note} {z : Note} (k f : Int) : about (A ++ z :: B) k f = (about (A ++ B) k f || (decide (z.kind = k) && inB f z.from_ z.until_)) := by
  unfold about
  rw [List.any_append, List.any_append, List.any_cons]
  cases (A.any fun x => decide (x.kind = k) && inB f x.from_ x.until_) <;> cases (B.any fun x => decide (x.kind = k) && inB f x.from_ x.until_) <;> simp
/-- What a further note at f0 does to a gap. -/
def turnG (f0 : Int) (s : Span) (x : Gap) : Gap := if x.kind = 2 ∧ x.frame = f0 then ⟨x.frame, x.kind, s.lo, s.hi⟩ else x
theorem gapS_turn {N N' : List Note} {f0 : Int} (ht : ∀ f, f ≠ f0 → toldV N' f = toldV N f) : ∀ {P : List Piece} {st st' : List Gap × List Strike}, st'.1 = st.1.map (turnG f0 (toldV N' f0).is) → (P.foldl (gapS N') st').1 = ((P.foldl (gapS N) st).1).map (turnG f0 (toldV N' f0).is)
  | [], _, _, h => h
  | p :: P, st, st', h => by
    rw [List.foldl_cons, List.foldl_cons]
    refine gapS_turn ht ?_
    have hl : st'.1.length = st.1.length := by rw [h]; simp
    unfold gapS
    rw [hl]
    split
    · exact h
    · split
      · simp only [List.map_append, h, List.map_cons, List.map_nil]
        unfold turnG
        simp
      · simp only [List.map_append, h, List.map_cons, List.map_nil]
        congr 2
        unfold turnG
        by_cases hf : p.from_ = f0
        · simp [hf]
        · simp [hf, ht _ hf]
theorem gapS_struck {N N' : List Note} (ht : ∀ f, (toldV N' f).struck = (toldV N f).struck) : ∀ {P : List Piece} {st st' : List Gap × List Strike}, st'.1.length = st.1.length → st'.2 = st.2 → (P.foldl (gapS N') st').2 = (P.foldl (gapS N) st).2
  | [], _, _, _, h => h
  | p :: P, st, st', h1, h => by
    rw [List.foldl_cons, List.foldl_cons]
    unfold gapS
    rw [h1]
    split
    · exact gapS_struck ht h1 h
    · split
      · exact gapS_struck ht (by simp [h1]) h
      · exact gapS_struck ht (by simp [h1]) (by simp only; rw [h, ht])
theorem gapsN_turn {N N' : List Note} {f0 : Int} {F : Nat} (ht : ∀ f, f ≠ f0 → toldV N' f = toldV N f) (hp : pieceK N' F = pieceK N F) : (gapsN F N').1 = (gapsN F N).1.map (turnG f0 (toldV N' f0).is) := by
  have h := gapS_turn ht (P := pieceK N F) (st := ([], [])) (st' := ([], [])) rfl
  have hl : ((pieceK N F).foldl (gapS N') ([], [])).1.length = ((pieceK N F).foldl (gapS N) ([], [])).1.length := by rw [h]; simp
  unfold gapsN
  simp only
  rw [hp, hl]
  split
  · unfold turnG; simp
  · simp only [List.map_append, h]
    congr 1
theorem gapsN_struck {N N' : List Note} {F : Nat} (ht : ∀ f, (toldV N' f).struck = (toldV N f).struck) (hp : pieceK N' F = pieceK N F) (hl : ((pieceK N F).foldl (gapS N') ([], [])).1.length = ((pieceK N F).foldl (gapS N) ([], [])).1.length) : (gapsN F N').2 = (gapsN F N).2 := by
  have h := gapS_struck ht (P := pieceK N F) (st := ([], [])) (st' := ([], [])) rfl rfl
  unfold gapsN
  simp only
  rw [hp, hl]
  split
  · rfl
  · exact h
/-- What a gap inside tells is what the notes tell. -/
theorem gapS_told {N : List Note} : ∀ {P : List Piece} {st : List Gap × List Strike}, (∀ x ∈ st.1, x.kind = 2 → (⟨x.lo, x.hi⟩ : Span) = (toldV N x.frame).is) → ∀ x ∈ (P.foldl (gapS N) st).1, x.kind = 2 → (⟨x.lo, x.hi⟩ : Span) = (toldV N x.frame).is
  | [], _, h => h
  | p :: P, st, h => by
    rw [List.foldl_cons]
    refine gapS_told ?_
    unfold gapS
    split
    · exact h
    · split
      · intro x hx h2
        rcases List.mem_append.1 hx with hx | hx
        · exact h x hx h2
        · obtain rfl : x = _ := by simpa using hx
          simp at h2
      · intro x hx h2
        rcases List.mem_append.1 hx with hx | hx
        · exact h x hx h2
        · obtain rfl : x = _ := by simpa using hx
          rfl
theorem gapsN_told {N : List Note} {F : Nat} : ∀ x ∈ (gapsN F N).1, x.kind = 2 → (⟨x.lo, x.hi⟩ : Span) = (toldV N x.frame).is := by
  have h := gapS_told (N := N) (P := pieceK N F) (st := ([], [])) (by simp)
  unfold gapsN
  simp only
  split
  · intro x hx h2
    obtain rfl : x = _ := by simpa using hx
    simp at h2
  · intro x hx h2
    rcases List.mem_append.1 hx with hx | hx
    · exact h x hx h2
    · obtain rfl : x = _ := by simpa using hx
      simp at h2
theorem told_by {f : Int} {b : ByteArray} : ∀ {l : List Note} {t : Told}, (∀ s ∈ t.struck, s.by_ ≠ b) → (∀ x ∈ l, x.by_ ≠ b) → ∀ s ∈ (l.foldl (toldS f) t).struck, s.by_ ≠ b
  | [], _, h, _ => h
  | x :: l, t, h, hl => by
    rw [List.foldl_cons]
    refine told_by ?_ fun y hy => hl y (by simp [hy])
    unfold toldS
    split
    · exact h
    · split
      · exact h
      · split
        · intro s hs
          rcases List.mem_append.1 hs with hs | hs
          · exact h s hs
          · obtain rfl : s = _ := by simpa using hs
            exact hl x (by simp)
        · exact h
theorem gapS_by {N : List Note} {b : ByteArray} (hN : ∀ x ∈ N, x.by_ ≠ b) : ∀ {P : List Piece} {st : List Gap × List Strike}, (∀ s ∈ st.2, s.by_ ≠ b) → ∀ s ∈ (P.foldl (gapS N) st).2, s.by_ ≠ b
  | [], _, h => h
  | p :: P, st, h => by
    rw [List.foldl_cons]
    refine gapS_by hN ?_
    unfold gapS
    split
    · exact h
    · split
      · exact h
      · intro s hs
        rcases List.mem_append.1 hs with hs | hs
        · exact h s hs
        · exact told_by (t := ⟨none, ⟨0, 400000⟩, []⟩) (by simp) hN s hs
theorem gapsN_by {N : List Note} {b : ByteArray} {F : Nat} (hN : ∀ x ∈ N, x.by_ ≠ b) : ∀ s ∈ (gapsN F N).2, s.by_ ≠ b := by
  have h := gapS_by hN (P := pieceK N F) (st := ([], [])) (by simp)
  unfold gapsN
  simp only
  split
  · simp
  · exact h
/-- The parts of a check. -/
structure ChkParts (T : Task) : Prop where
  film : (filmV T.reel).2.2 = 0
  whole : (inB T.whole.lo 1 400000 && inB T.whole.hi 1 400000) = true
  le : T.whole.lo ≤ T.whole.hi
  nn : T.notes.length ≤ 60
  note : ∀ x ∈ T.notes, noteE x = 0 ∧ x.until_ < T.reel.frames
theorem chk_parts {T : Task} : (checkV T).2.2 = 0 ↔ ChkParts T := by
  constructor
  · intro h
    unfold checkV at h
    split at h
    · rename_i h1; exact absurd h h1
    · rename_i h1
      split at h
      · cases h
      · rename_i h2
        split at h
        · cases h
        · rename_i h3
          split at h
          · cases h
          · rename_i h4
            split at h
            · rename_i h5; exact absurd h (fstE_ne h5)
            · rename_i h5
              have hall := fstE_all h5
              refine ⟨Decidable.not_not.1 h1, by simpa using h2, by omega, by omega, fun x hx => ?_⟩
              obtain ⟨i, hi, rfl⟩ := nt_mem hx
              have := hall i hi
              unfold taskE at this
              split at this
              · rename_i g1; exact absurd this g1
              · rename_i g1
                split at this
                · cases this
                · exact ⟨Decidable.not_not.1 g1, by omega⟩
  · intro h
    unfold checkV
    rw [if_neg (by simpa using h.film), if_neg (by simp [h.whole]), if_neg (by have := h.le; omega), if_neg (by have := h.nn; omega), if_neg]
    rw [show fstE (taskE T) T.notes.length = T.notes.length from fstE_none fun i hi => ?_]
    · omega
    · obtain ⟨a, b⟩ := h.note _ (nt_in hi)
      unfold taskE
      rw [if_neg (by simpa using a), if_neg (by omega)]
theorem note_of {x : Note} (h1 : okName x.by_ = true) (h2 : 1 ≤ x.kind ∧ x.kind ≤ 3) (h3 : 1 ≤ x.number ∧ x.number ≤ 999) (h4 : 0 ≤ x.rev ∧ x.rev ≤ 99) (h5 : 0 ≤ x.from_ ∧ x.from_ ≤ x.until_ ∧ x.until_ ≤ 199999) (h6 : 0 ≤ x.mlo ∧ x.mlo ≤ x.mhi ∧ x.mhi ≤ 400000) (h7 : x.kind = 1 → x.from_ = x.until_) (h8 : x.kind ≠ 1 → x.mhi = 0) : noteE x = 0 := by
  unfold noteE
  rw [if_neg (by simp [h1]), if_neg (by simp [inB_iff.2 h2]), if_neg, if_neg]
  · rintro (a | a | ⟨a, b⟩ | ⟨a, b⟩)
    · omega
    · omega
    · have := h7 a; omega
    · have := h8 a; omega
  · rw [inB_iff.2 h3, inB_iff.2 h4, inB_iff.2 (show (0 : Int) ≤ x.from_ ∧ x.from_ ≤ 199999 by omega), inB_iff.2 (show (0 : Int) ≤ x.until_ ∧ x.until_ ≤ 199999 by omega), inB_iff.2 (show (0 : Int) ≤ x.mlo ∧ x.mlo ≤ 400000 by omega), inB_iff.2 (show (0 : Int) ≤ x.mhi ∧ x.mhi ≤ 400000 by omega)]
    simp
def zoe : ByteArray := ⟨#[122, 111, 101]⟩
def zoeN (f lo hi : Int) : Note := ⟨zoe, 1, 0, 1, f, f, lo, hi⟩
theorem cmpS_gt {a b : ByteArray} (h : ltB b a = true) : 0 < cmpS a b := by
  have := cmpS_swap b a
  have := cmpS_neg.2 h
  omega
theorem ans_mem {gs : List Gap} {all : List Grp} {y : Gap} (h : y ∈ ansV gs all) : ∃ x ∈ gs, x.frame = y.frame ∧ x.kind = y.kind := by
  unfold ansV at h
  obtain ⟨x, hx, rfl⟩ := List.mem_map.1 h
  exact ⟨x, hx, rfl, rfl⟩
/-- A further note of a splice, behind all others at a gap inside. -/
theorem further {T : Task} (hc : (checkV T).2.2 = 0) {f0 lo hi : Int} {x0 : Gap} (hx0 : x0 ∈ (gapsT T).1) (hk : x0.kind = 2) (hf0 : x0.frame = f0) (hlo : 0 ≤ lo ∧ lo ≤ hi ∧ hi ≤ 400000) (hz : ∀ y ∈ T.notes, y.by_ ≠ zoe) (hB : ∀ y ∈ T.notes, y.from_ = f0 → ltB zoe y.by_ = false) (hn : ∃ y ∈ standV T.notes, y.kind = 1 ∧ y.from_ = f0) (hl : T.notes.length < 60) :
    (checkV { T with notes := T.notes ++ [zoeN f0 lo hi] }).2.2 = 0 ∧
    (((gapsT { T with notes := T.notes ++ [zoeN f0 lo hi] }).1 = (gapsT T).1 ∧ grpsT { T with notes := T.notes ++ [zoeN f0 lo hi] } = grpsT T) ∨
    (All2 NarX (gapsT { T with notes := T.notes ++ [zoeN f0 lo hi] }).1 (gapsT T).1 ∧ (∀ s ∈ (gapsT { T with notes := T.notes ++ [zoeN f0 lo hi] }).2, s.by_ ≠ zoe) ∧ ((grpsT { T with notes := T.notes ++ [zoeN f0 lo hi] }).2.length ≤ (grpsT T).2.length → All2 NarG (grpsT { T with notes := T.notes ++ [zoeN f0 lo hi] }).1 (grpsT T).1))) := by
  have hp := chk_parts.1 hc
  have hok := task_ok hc
  have hst : ∀ x ∈ standV T.notes, NoteOk x := fun x hx => (hok.note x (standV_mem.1 hx).1).1
  obtain ⟨F, hF⟩ : ∃ F, F = T.reel.frames.toNat := ⟨_, rfl⟩
  have hfr : T.reel.frames = (F : Int) := by have := hok.reel.frames; omega
  have hfb : 0 ≤ f0 ∧ f0 < (F : Int) := by
    have h1 : x0 ∈ (gapsN F (standV T.notes)).1 := by rw [hF]; exact hx0
    have h2 := gaps_inv hst F
    unfold gapsN at h1
    simp only at h1
    split at h1
    · obtain rfl : x0 = _ := by simpa using h1
      simp at hk
    · rcases List.mem_append.1 h1 with h1 | h1
      · have := h2.mem x0 h1; omega
      · obtain rfl : x0 = _ := by simpa using h1
        simp at hk
  have hFb : F ≤ 200000 := by have := hok.reel.frames; omega
  have hc' : (checkV { T with notes := T.notes ++ [zoeN f0 lo hi] }).2.2 = 0 := by
    refine chk_parts.2 ⟨hp.film, hp.whole, hp.le, by simp; omega, fun x hx => ?_⟩
    rcases List.mem_append.1 hx with hx | hx
    · exact hp.note x hx
    · obtain rfl : x = _ := by simpa using hx
      refine ⟨note_of (by show okName zoe = true; decide) (by show (1 : Int) ≤ 1 ∧ (1 : Int) ≤ 3; omega) (by show (1 : Int) ≤ 1 ∧ (1 : Int) ≤ 999; omega) (by show (0 : Int) ≤ 0 ∧ (0 : Int) ≤ 99; omega) ⟨hfb.1, Int.le_refl _, by show f0 ≤ 199999; omega⟩ hlo (fun _ => rfl) (fun h => absurd rfl h), ?_⟩
      show f0 < T.reel.frames
      omega
  refine ⟨hc', ?_⟩
  obtain ⟨A, B, e1, e2, hA, hB2⟩ := stand_more (l := T.notes) (z := zoeN f0 lo hi) hz
  obtain ⟨N, hN⟩ : ∃ N, N = standV T.notes := ⟨_, rfl⟩
  obtain ⟨N', hN'⟩ : ∃ N, N = standV (T.notes ++ [zoeN f0 lo hi]) := ⟨_, rfl⟩
  rw [← hN] at e1 hst hn
  rw [← hN'] at e2
  have hby : ∀ x ∈ N, x.by_ ≠ zoe := fun x hx => hz x (standV_mem.1 (by rw [← hN]; exact hx)).1
  have hBf : f0 = (zoeN f0 lo hi).from_ → ∀ x ∈ B, x.kind ≠ 1 ∨ x.from_ ≠ f0 := fun _ x hx => by
    by_cases h1 : x.kind = 1
    · by_cases h2 : x.from_ = f0
      · exfalso
        have hxN : x ∈ N := by rw [e1]; exact List.mem_append_right _ hx
        have h3 := (hst x hxN).one h1
        have h4 := hB2 x hx
        have h5 := hB x (standV_mem.1 (by rw [← hN]; exact hxN)).1 h2
        have h6 : ltB x.by_ zoe = true := by
          cases h : ltB x.by_ zoe
          · exact absurd (ltB_total h h5) (hby x hxN)
          · rfl
        have h7 := cmpS_gt h6
        unfold ordV zoeN at h4
        simp only at h4
        rw [← h3, h2, h1] at h4
        simp only [Int.sub_self, fst0, ne_eq, not_true_eq_false, if_false] at h4
        rw [if_pos (by omega)] at h4
        omega
      · exact .inr h2
    · exact .inl h1
  have ht : ∀ f, toldV N' f = toldS f (toldV N f) (zoeN f0 lo hi) := fun f => by
    rw [e1, e2]
    by_cases hf : f = f0
    · subst hf; exact told_more hBf
    · exact told_more fun e => absurd e hf
  have hto : ∀ f, f ≠ f0 → toldV N' f = toldV N f := fun f hf => by rw [ht f]; exact told_other hf
  have h3 : ∀ f, about N' 3 f = about N 3 f := fun f => by
    rw [e1, e2, about_more]
    simp [zoeN]
  have h1 : ∀ f, about N' 1 f = about N 1 f := fun f => by
    rw [e2, about_more, ← e1]
    by_cases hf : f = f0
    · subst hf
      obtain ⟨y, hy, hy1, hy2⟩ := hn
      have : about N 1 f = true := by
        unfold about
        rw [List.any_eq_true]
        refine ⟨y, hy, ?_⟩
        have := (hst y hy).one hy1
        rw [hy1, inB_iff.2 (by omega)]; rfl
      rw [this]; rfl
    · have : inB f (zoeN f0 lo hi).from_ (zoeN f0 lo hi).until_ = false := by
        cases h : inB f (zoeN f0 lo hi).from_ (zoeN f0 lo hi).until_
        · rfl
        · have := inB_iff.1 h
          simp only [zoeN] at this; omega
      rw [this]; simp
  have hpc := pieceK_congr h3 h1 F
  have hg := gapsN_turn hto hpc
  have hfst : ∃ y, (toldV N f0).first = some y := by
    obtain ⟨y, hy, hy1, hy2⟩ := hn
    cases hq : (toldV N f0).first with
    | some y => exact ⟨y, rfl⟩
    | none =>
      exfalso
      have key : ∀ (l : List Note) (t : Told), y ∈ l → (l.foldl (toldS f0) t).first ≠ none := fun l => by
        have keep : ∀ (l : List Note) (t : Told), t.first ≠ none → (l.foldl (toldS f0) t).first ≠ none := fun l => by
          induction l with
          | nil => intro t h; exact h
          | cons x l ih =>
            intro t h
            rw [List.foldl_cons]
            refine ih _ ?_
            unfold toldS
            split
            · exact h
            · split
              · simp
              · split <;> exact h
        induction l with
        | nil => intro t h; cases h
        | cons x l ih =>
          intro t h
          rw [List.foldl_cons]
          rcases List.mem_cons.1 h with rfl | h
          · refine keep l _ ?_
            unfold toldS
            rw [if_neg (by simp [hy1, hy2])]
            split
            · simp
            · rename_i h9
              split <;> (simp only; rw [h9]; simp)
          · exact ih _ h
      exact key N _ hy hq
  obtain ⟨y, hy⟩ := hfst
  have hT0 := ht f0
  unfold toldS at hT0
  rw [if_neg (by simp [zoeN]), hy] at hT0
  simp only at hT0
  have eg : (gapsT T).1 = (gapsN F N).1 := by unfold gapsT; rw [← hF, ← hN]
  have eg' : gapsT { T with notes := T.notes ++ [zoeN f0 lo hi] } = gapsN F N' := by unfold gapsT; simp only; rw [← hF, ← hN']
  have er : grpsT T = grpsV (footV T.reel.gauge) F N (gapsN F N).1 T.reel.marks T.whole := by unfold grpsT; rw [eg, ← hF, ← hN]
  have er' : grpsT { T with notes := T.notes ++ [zoeN f0 lo hi] } = grpsV (footV T.reel.gauge) F N (gapsN F N').1 T.reel.marks T.whole := by
    unfold grpsT; rw [eg']; simp only; rw [← hF, ← hN', grpsV_congr h3]
  rw [eg', er', er, eg]
  by_cases hs : (comS (toldV N f0).is ⟨(zoeN f0 lo hi).mlo, (zoeN f0 lo hi).mhi⟩).hi < (comS (toldV N f0).is ⟨(zoeN f0 lo hi).mlo, (zoeN f0 lo hi).mhi⟩).lo
  · rw [if_pos hs] at hT0
    have his : (toldV N' f0).is = (toldV N f0).is := by rw [hT0]
    have hid : (gapsN F N').1 = (gapsN F N).1 := by
      rw [hg]
      have : ∀ x ∈ (gapsN F N).1, turnG f0 (toldV N' f0).is x = x := fun x hx => by
        unfold turnG
        split
        · rename_i h2
          have := gapsN_told x hx h2.1
          rw [h2.2] at this
          rw [his, ← this]
        · rfl
      rw [List.map_congr_left this]; simp
    exact .inl ⟨hid, by rw [hid]⟩
  · rw [if_neg hs] at hT0
    refine .inr ?_
    have hnar : All2 NarX (gapsN F N').1 (gapsN F N).1 := by
      rw [hg]
      refine All2.mk (by simp) fun i i1 i2 => ?_
      rw [List.getElem_map]
      unfold turnG
      split
      · rename_i h2
        have h4 := gapsN_told _ (List.getElem_mem i2) h2.1
        rw [h2.2] at h4
        have h5 : (toldV N f0).is.lo = (gapsN F N).1[i].lo ∧ (toldV N f0).is.hi = (gapsN F N).1[i].hi := by rw [← h4]; exact ⟨rfl, rfl⟩
        refine ⟨rfl, rfl, ?_, ?_⟩
        · simp only; rw [hT0]; unfold comS; simp only; omega
        · simp only; rw [hT0]; unfold comS; simp only; omega
      · exact narX_rfl _
    refine ⟨hnar, ?_, fun hl => grpsV_nar hnar hl⟩
    have hstr : ∀ f, (toldV N' f).struck = (toldV N f).struck := fun f => by
      by_cases hf : f = f0
      · subst hf; rw [hT0]
      · rw [hto f hf]
    have hgl := gapS_turn hto (P := pieceK N F) (st := ([], [])) (st' := ([], [])) rfl
    rw [gapsN_struck hstr hpc (by rw [hgl]; simp)]
    exact gapsN_by hby
end Go.Proofs.YtapeakbngligaaaGreatDoor.D
