/-
  The groups part the gaps; the answers of Gaps, Place and Find, plain.
  The gaps of all groups: how many, and in which bounds; a valid task.
-/
import Derived.Test.YtapeakbngligaaaGreatDoorBPlA
namespace Go.Proofs.YtapeakbngligaaaGreatDoor.D
/-- A gap with what its group tells of it. -/
def tellG (g : Grp) (x : Gap) : Gap := ⟨x.frame, x.kind, (partG g fun y => decide (y.frame = x.frame)).lo, (partG g fun y => decide (y.frame = x.frame)).hi⟩
/-- The gaps of all groups, group by group. -/
def outV (all : List Grp) : List Gap := all.flatMap fun g => g.gaps.map (tellG g)
def grpOf (all : List Grp) (x : Gap) : Grp := (all.find? fun g => g.gaps.contains x).getD default
/-- All gaps in their order, each as its group tells. -/
def ansV (gs : List Gap) (all : List Grp) : List Gap := gs.map fun x => tellG (grpOf all x) x
structure PartOk (gs : List Gap) (all : List Grp) : Prop where
  ord : InFr gs
  sub : ∀ g ∈ all, ∀ x ∈ g.gaps, x ∈ gs
  cov : ∀ x ∈ gs, ∃ g ∈ all, x ∈ g.gaps
  apart : all.Pairwise fun a b => ∀ x ∈ a.gaps, ∀ y ∈ b.gaps, x.frame ≠ y.frame
  each : ∀ g ∈ all, InFr g.gaps
theorem gpD_get {l : List Gap} {i : Nat} (h : i < l.length) : gpD l i = l[i] := by unfold gpD; rw [List.getD_eq_getElem?_getD, List.getElem?_eq_getElem h]; rfl
theorem inFr_same {l : List Gap} (h : InFr l) {x y : Gap} (hx : x ∈ l) (hy : y ∈ l) (he : x.frame = y.frame) : x = y := by
  obtain ⟨i, hi, rfl⟩ := List.mem_iff_getElem.1 hx
  obtain ⟨j, hj, rfl⟩ := List.mem_iff_getElem.1 hy
  have h' := List.pairwise_iff_getElem.1 h
  rcases Nat.lt_trichotomy i j with h1 | h1 | h1
  · have := h' i j hi hj h1; omega
  · subst h1; rfl
  · have := h' j i hj hi h1; omega
theorem PartOk.one {gs : List Gap} {all : List Grp} (h : PartOk gs all) {g k : Grp} (hg : g ∈ all) (hk : k ∈ all) {x y : Gap} (hx : x ∈ g.gaps) (hy : y ∈ k.gaps) (he : x.frame = y.frame) : g = k := by
  obtain ⟨i, hi, rfl⟩ := List.mem_iff_getElem.1 hg
  obtain ⟨j, hj, rfl⟩ := List.mem_iff_getElem.1 hk
  have h' := List.pairwise_iff_getElem.1 h.apart
  rcases Nat.lt_trichotomy i j with h1 | h1 | h1
  · exact absurd he (h' i j hi hj h1 x hx y hy)
  · subst h1; rfl
  · exact absurd he.symm (h' j i hj hi h1 y hy x hx)
theorem PartOk.of {gs : List Gap} {all : List Grp} (h : PartOk gs all) {g : Grp} (hg : g ∈ all) {x : Gap} (hx : x ∈ g.gaps) : grpOf all x = g := by
  unfold grpOf
  cases hf : all.find? fun g => g.gaps.contains x with
  | none =>
    have := List.find?_eq_none.1 hf g hg
    simp at this; exact absurd hx this
  | some k =>
    have h1 := List.find?_some hf
    have h2 := List.mem_of_find?_eq_some hf
    simp only [List.contains_iff_mem] at h1
    exact h.one h2 hg h1 hx rfl
theorem outV_mem {all : List Grp} {y : Gap} : y ∈ outV all ↔ ∃ g ∈ all, ∃ x ∈ g.gaps, y = tellG g x := by
  unfold outV
  simp only [List.mem_flatMap, List.mem_map]
  constructor
  · rintro ⟨g, hg, x, hx, rfl⟩; exact ⟨g, hg, x, hx, rfl⟩
  · rintro ⟨g, hg, x, hx, rfl⟩; exact ⟨g, hg, x, hx, rfl⟩
theorem ansV_mem {gs : List Gap} {all : List Grp} (h : PartOk gs all) {y : Gap} : y ∈ ansV gs all ↔ y ∈ outV all := by
  rw [outV_mem]
  unfold ansV
  simp only [List.mem_map]
  constructor
  · rintro ⟨x, hx, rfl⟩
    obtain ⟨g, hg, hxg⟩ := h.cov x hx
    exact ⟨g, hg, x, hxg, by rw [h.of hg hxg]⟩
  · rintro ⟨g, hg, x, hx, rfl⟩
    exact ⟨x, h.sub g hg x hx, by rw [h.of hg hx]⟩
theorem ansV_ord {gs : List Gap} {all : List Grp} (h : InFr gs) : InFr (ansV gs all) := by
  unfold ansV InFr
  rw [List.pairwise_map]
  exact h
theorem ansV_uniq {gs : List Gap} {all : List Grp} (h : PartOk gs all) {L : List Gap} (hL : InFr L) (hm : ∀ y, y ∈ L ↔ y ∈ outV all) : L = ansV gs all :=
  inFr_uniq hL (ansV_ord h.ord) fun y => (hm y).trans (ansV_mem h).symm
theorem ansV_len (gs : List Gap) (all : List Grp) : (ansV gs all).length = gs.length := by unfold ansV; simp
/-- No two gaps of all groups are at one frame. -/
theorem outV_nd {gs : List Gap} {all : List Grp} (h : PartOk gs all) : (outV all).Pairwise fun a b => a.frame ≠ b.frame := by
  unfold outV
  rw [List.pairwise_flatMap]
  refine ⟨fun g hg => ?_, h.apart.imp fun {a b} hab => ?_⟩
  · rw [List.pairwise_map]
    exact (h.each g hg).imp fun {a b} hab => by show a.frame ≠ b.frame; omega
  · intro x hx y hy
    obtain ⟨x', hx', rfl⟩ := List.mem_map.1 hx
    obtain ⟨y', hy', rfl⟩ := List.mem_map.1 hy
    exact hab x' hx' y' hy'
theorem grpsV_part {foot : Int} {F : Nat} {N : List Note} {gs : List Gap} {ms : List Mark} {whole : Span} (hgs : InFr gs) (hm : MarksIn F ms) (hf : 0 ≤ foot ∧ foot ≤ 80) (hF : F ≤ 200000) : PartOk gs (grpsV foot F N gs ms whole).1 := by
  have h := grpsK_inv (l := N) (gs := gs) hm hf hF ms.length (Nat.le_refl _)
  rw [grpsV_eq]
  obtain ⟨st, hst⟩ : ∃ st, st = grpsK foot F N gs ms ms.length := ⟨_, rfl⟩
  rw [← hst] at h ⊢
  dsimp only
  have hsub : ∀ g ∈ st.all, ∀ x ∈ g.gaps, x ∈ gs := fun g hg x hx => (h.all g hg).1.sub.subset hx
  refine ⟨hgs, fun g hg x hx => ?_, fun x hx => ?_, List.pairwise_append.2 ⟨h.apart.imp fun {a b} hab x hx y hy => by have := hab x hx y hy; omega, by simp, fun a ha b hb x hx y hy => ?_⟩, fun g hg => ?_⟩
  · rcases List.mem_append.1 hg with hg | hg
    · exact hsub g hg x hx
    · obtain rfl : g = _ := by simpa using hg
      exact h.rest.subset hx
  · by_cases hr : ∃ g ∈ st.all, x ∈ g.gaps
    · obtain ⟨g, hg, hxg⟩ := hr
      exact ⟨g, by simp [hg], hxg⟩
    · refine ⟨⟨st.rest, ⟨whole.lo - st.left, whole.hi - st.left⟩⟩, by simp, (h.mem x).2 ⟨hx, fun g hg hxg => hr ⟨g, hg, hxg⟩⟩⟩
  · obtain rfl : b = _ := by simpa using hb
    intro he
    have hxy := inFr_same hgs (hsub a ha x hx) (h.rest.subset hy) he
    subst hxy
    exact ((h.mem x).1 hy).2 a ha hx
  · rcases List.mem_append.1 hg with hg | hg
    · exact hgs.sublist (h.all g hg).1.sub
    · obtain rfl : g = _ := by simpa using hg
      exact hgs.sublist h.rest
/-- The gaps and groups of a task without error. -/
def gapsT (T : Task) : List Gap × List Strike := gapsN T.reel.frames.toNat (standV T.notes)
def grpsT (T : Task) : List Grp × List Int := grpsV (footV T.reel.gauge) T.reel.frames.toNat (standV T.notes) (gapsT T).1 T.reel.marks T.whole
def okT (T : Task) : Bool := (grpsT T).1.all grpOk
structure GapsA where
  gaps : List Gap
  struck : List Strike
  wrong : List Int
  e : Int
/-- What Gaps answers. -/
def gapsAns (T : Task) : GapsA :=
  if (checkV T).2.2 ≠ 0 then ⟨[], [], [], (checkV T).2.2⟩
  else if okT T then ⟨ansV (gapsT T).1 (grpsT T).1, (gapsT T).2, (grpsT T).2, 0⟩ else ⟨[], (gapsT T).2, (grpsT T).2, 9⟩
/-- What Place answers. -/
def placeAns (T : Task) (f : Int) : Span × Int :=
  if (checkV T).2.2 ≠ 0 then (⟨0, 0⟩, (checkV T).2.2)
  else if inB f 0 (T.reel.frames - 1) = false then (⟨0, 0⟩, 7)
  else if about (standV T.notes) 3 f = true then (⟨0, 0⟩, 4)
  else if okT T = false then (⟨0, 0⟩, 9)
  else (placeG (standV T.notes) (grpsT T).1 f.toNat, 0)
/-- One more piece in what Find returns. -/
def findS (N : List Note) (all : List Grp) (wh : Int) (out : List Span) (p : Piece) : List Span :=
  if p.leader then out else
    let at_ := placeG N all p.from_.toNat
    let s := comS ⟨p.from_, p.until_⟩ ⟨p.from_ + wh - at_.hi, p.from_ + wh - at_.lo⟩
    if s.hi < s.lo then out
    else if 0 < out.length ∧ (spD out (out.length - 1)).hi = s.lo - 1 then out.set (out.length - 1) { spD out (out.length - 1) with hi := s.hi }
    else out ++ [s]
def findV (N : List Note) (F : Nat) (all : List Grp) (wh : Int) : List Span := (pieceK N F).foldl (findS N all wh) []
/-- What Find answers. -/
def findAns (T : Task) (wh : Int) : List Span × Int :=
  if (checkV T).2.2 ≠ 0 then ([], (checkV T).2.2)
  else if inB wh 0 399999 = false then ([], 7)
  else if okT T = false then ([], 9)
  else (findV (standV T.notes) T.reel.frames.toNat (grpsT T).1 wh, 0)
end Go.Proofs.YtapeakbngligaaaGreatDoor.D
namespace Go.Proofs.YtapeakbngligaaaGreatDoor.D
def ada : ByteArray := ⟨#[97, 100, 97]⟩
def eve : ByteArray := ⟨#[101, 118, 101]⟩
theorem sum_app (l m : List Int) : (l ++ m).sum = l.sum + m.sum := by
  induction l with
  | nil => simp
  | cons x l ih => rw [List.cons_append, List.sum_cons, List.sum_cons, ih]; omega
theorem inFr_filter {l : List Gap} (h : InFr l) (p : Gap → Bool) : InFr (l.filter p) := h.sublist List.filter_sublist
theorem filter_one {l : List Gap} (h : InFr l) {x : Gap} (hx : x ∈ l) : (l.filter fun y => decide (y.frame = x.frame)) = [x] := by
  refine inFr_uniq (inFr_filter h _) (by unfold InFr; simp) fun y => ?_
  rw [List.mem_filter, List.mem_singleton, decide_eq_true_iff]
  constructor
  · rintro ⟨a, b⟩; exact inFr_same h a hx b
  · rintro rfl; exact ⟨hx, rfl⟩
theorem sumG_one (n : Gap → Int) (x : Gap) : sumG n [x] = n x := by simp [sumG]
/-- The groups have all gaps, each once. -/
theorem grps_sum {foot : Int} {F : Nat} {N : List Note} {gs : List Gap} {ms : List Mark} (hgs : InFr gs) (hm : MarksIn F ms) (hf : 0 ≤ foot ∧ foot ≤ 80) (hF : F ≤ 200000) (n : Gap → Int) : ∀ k, k ≤ ms.length → ((grpsK foot F N gs ms k).all.map fun g => sumG n g.gaps).sum + sumG n (grpsK foot F N gs ms k).rest = sumG n gs
  | 0, _ => by simp [grpsK]
  | k + 1, hk => by
    have ih := grps_sum (N := N) hgs hm hf hF n k (by omega)
    have hi := grpsK_inv (l := N) (gs := gs) hm hf hF k (by omega)
    rw [grpsK_succ]
    obtain ⟨st, hst⟩ : ∃ st, st = grpsK foot F N gs ms k := ⟨_, rfl⟩
    rw [← hst] at ih hi ⊢
    unfold grpS
    split
    · exact ih
    · split
      · exact ih
      · rename_i h0 _
        have hk0 : 0 < k := by
          rcases Nat.eq_zero_or_pos k with e | e
          · exact absurd (.inl e) h0
          · exact e
        have hb : st.rest.filter (betw (mkD ms (k - 1)) (mkD ms k)) = gs.filter (betw (mkD ms (k - 1)) (mkD ms k)) := by
          refine inFr_uniq (inFr_filter (hgs.sublist hi.rest) _) (inFr_filter hgs _) fun x => ?_
          rw [List.mem_filter, List.mem_filter, hi.mem x]
          constructor
          · rintro ⟨⟨a, b⟩, c⟩; exact ⟨a, c⟩
          · rintro ⟨a, c⟩
            refine ⟨⟨a, fun g hg hx => ?_⟩, c⟩
            obtain ⟨-, -, i, i1, i2, i3, i4⟩ := hi.all g hg
            rw [i4] at hx
            have a1 := betw_iff.1 (List.mem_filter.1 hx).2
            have a2 := betw_iff.1 c
            have a3 := marks_le hm (i := i) (j := k - 1) (by omega) (by omega)
            omega
        have hs := sumG_split n (betw (mkD ms (k - 1)) (mkD ms k)) st.rest
        rw [hb] at hs
        simp only [List.map_append, sum_app, List.map_cons, List.map_nil, List.sum_singleton]
        omega
theorem sumG_len : ∀ l : List Gap, sumG (fun _ => 1) l = (l.length : Int)
  | [] => rfl
  | x :: l => by rw [sumG, sumG_len l]; simp; omega
theorem outV_cons (g : Grp) (l : List Grp) : outV (g :: l) = g.gaps.map (tellG g) ++ outV l := by unfold outV; rw [List.flatMap_cons]
theorem outV_app (l m : List Grp) : outV (l ++ m) = outV l ++ outV m := by unfold outV; rw [List.flatMap_append]
theorem outV_lenI : ∀ all : List Grp, ((outV all).length : Int) = (all.map fun g => sumG (fun _ => 1) g.gaps).sum
  | [] => rfl
  | g :: l => by rw [outV_cons, List.map_cons, List.sum_cons, ← outV_lenI l, sumG_len]; simp
theorem grpsV_sum {foot : Int} {F : Nat} {N : List Note} {gs : List Gap} {ms : List Mark} {whole : Span} (hgs : InFr gs) (hm : MarksIn F ms) (hf : 0 ≤ foot ∧ foot ≤ 80) (hF : F ≤ 200000) (n : Gap → Int) : ((grpsV foot F N gs ms whole).1.map fun g => sumG n g.gaps).sum = sumG n gs := by
  rw [grpsV_eq]
  simp only [List.map_append, sum_app, List.map_cons, List.map_nil, List.sum_singleton]
  exact grps_sum hgs hm hf hF n _ (Nat.le_refl _)
theorem outV_len {foot : Int} {F : Nat} {N : List Note} {gs : List Gap} {ms : List Mark} {whole : Span} (hgs : InFr gs) (hm : MarksIn F ms) (hf : 0 ≤ foot ∧ foot ≤ 80) (hF : F ≤ 200000) : (outV (grpsV foot F N gs ms whole).1).length = gs.length := by
  have h1 := outV_lenI (grpsV foot F N gs ms whole).1
  rw [grpsV_sum hgs hm hf hF, sumG_len] at h1
  omega
theorem outV_take {l : List Grp} {k : Nat} (hk : k < l.length) : outV (l.take (k + 1)) = outV (l.take k) ++ (l.getD k default).gaps.map (tellG (l.getD k default)) := by
  rw [List.take_succ_eq_append_getElem hk, outV_app, outV_cons]
  simp [List.getD_eq_getElem?_getD, List.getElem?_eq_getElem hk, outV]
theorem outV_le (l : List Grp) (k : Nat) : (outV (l.take k)).length ≤ (outV l).length := by
  conv => rhs; rw [← List.take_append_drop k l]
  rw [outV_app, List.length_append]; omega
theorem grps_is {foot : Int} {F : Nat} {N : List Note} {gs : List Gap} {ms : List Mark} {whole : Span} (hm : MarksIn F ms) (hf : 0 ≤ foot ∧ foot ≤ 80) (hF : F ≤ 200000) (hw : whole.lo ≤ whole.hi) : ∀ g ∈ (grpsV foot F N gs ms whole).1, g.is.lo ≤ g.is.hi := by
  have hi := grpsK_inv (l := N) (gs := gs) hm hf hF ms.length (Nat.le_refl _)
  rw [grpsV_eq]
  intro g hg
  rcases List.mem_append.1 hg with hg | hg
  · have := (hi.all g hg).2.1; omega
  · obtain rfl : g = _ := by simpa using hg
    simp only; omega
/-- What a group tells of one gap is in what the notes tell. -/
theorem tell_in {gs : List Gap} {all : List Grp} {F : Nat} (hp : PartOk gs all) (hg : GapsOk F gs) (hF : F ≤ 200000) (his : ∀ g ∈ all, g.is.lo ≤ g.is.hi) (hok : all.all grpOk = true) : ∀ y ∈ outV all, GapIn y ∧ y.lo ≤ y.hi := by
  intro y hy
  obtain ⟨g, hgm, x, hx, rfl⟩ := outV_mem.1 hy
  have hxm := hg.mem x (hp.sub g hgm x hx)
  have h1 := part_some (g := g) (fun z hz => (hg.mem z (hp.sub g hgm z hz)).2.2.2.1) (his g hgm) (List.all_eq_true.1 hok g hgm) fun y => decide (y.frame = x.frame)
  have h2 := filter_one (hp.each g hgm) hx
  have h3 : x.lo ≤ (partG g fun y => decide (y.frame = x.frame)).lo ∧ (partG g fun y => decide (y.frame = x.frame)).hi ≤ x.hi := by
    unfold partG comS
    rw [h2, endsS_eq, sumG_one, sumG_one]
    simp only; omega
  unfold GapIn tellG
  simp only
  omega
/-- What is known of the gaps and groups of a valid task. -/
structure TaskP (T : Task) (F : Nat) : Prop where
  ok : TaskOk T
  fr : T.reel.frames = (F : Int)
  F1 : 1 ≤ F ∧ F ≤ 200000
  st : ∀ x ∈ standV T.notes, NoteOk x
  gaps : GapsOk F (gapsT T).1
  part : PartOk (gapsT T).1 (grpsT T).1
  is : ∀ g ∈ (grpsT T).1, g.is.lo ≤ g.is.hi
  len : (outV (grpsT T).1).length = (gapsT T).1.length
  eg : gapsT T = gapsN F (standV T.notes)
theorem task_p {T : Task} (hc : (checkV T).2.2 = 0) : TaskP T T.reel.frames.toNat := by
  have hok := task_ok hc
  have hst : ∀ x ∈ standV T.notes, NoteOk x := fun x hx => (hok.note x (standV_mem.1 hx).1).1
  have hfr : T.reel.frames = (T.reel.frames.toNat : Int) := by have := hok.reel.frames; omega
  have hF1 : 1 ≤ T.reel.frames.toNat ∧ T.reel.frames.toNat ≤ 200000 := by have := hok.reel.frames; omega
  have hm : MarksIn T.reel.frames.toNat T.reel.marks := ⟨hok.reel.nm, fun i hi => by have := hok.reel.mark i hi; rw [hfr] at this; exact this, hok.reel.up⟩
  have hf : 0 ≤ footV T.reel.gauge ∧ footV T.reel.gauge ≤ 80 := by rcases foot_cases T.reel.gauge with h | h | h | h <;> omega
  have hg : GapsOk T.reel.frames.toNat (gapsT T).1 := gapsN_ok hst _
  exact ⟨hok, hfr, hF1, hst, hg, grpsV_part hg.ord hm hf hF1.2, grps_is hm hf hF1.2 hok.whole.2.1, outV_len hg.ord hm hf hF1.2, rfl⟩
end Go.Proofs.YtapeakbngligaaaGreatDoor.D
