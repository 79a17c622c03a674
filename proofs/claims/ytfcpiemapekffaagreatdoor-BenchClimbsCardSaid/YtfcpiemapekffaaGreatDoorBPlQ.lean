/-
  BenchClimbs, plain.
-/
import Derived.Test.YtfcpiemapekffaaGreatDoorBPlW
namespace Go.Proofs.YtfcpiemapekffaaGreatDoor.D
theorem sumG_mul (c : Int) : ∀ l : List Gap, sumG (fun _ => c) l = c * sumG (fun _ => 1) l
  | [] => by simp [sumG]
  | g :: l => by
    have := sumG_mul c l
    rw [sumG, sumG, this, Int.mul_add]; omega
theorem part_hi {g : Grp} (hg : ∀ x ∈ g.gaps, x.hi ≤ 400000) (p : Gap → Bool) : (partG g p).hi ≤ 400000 * sumG (fun _ => 1) g.gaps := by
  have h1 : (partG g p).hi ≤ (endsS (g.gaps.filter p)).hi := by unfold partG comS; simp only; omega
  rw [endsS_eq] at h1
  have h2 := sumG_le (n := (·.hi)) (m := fun _ => 400000) (l := g.gaps.filter p) fun x hx => hg x (List.mem_filter.1 hx).1
  have h3 := sumG_filter_le (n := fun _ => 400000) (p := p) (p' := fun _ => true) (l := g.gaps) (fun _ _ => by decide) (fun _ _ _ => rfl)
  rw [List.filter_eq_self.2 (fun _ _ => rfl), sumG_mul 400000 g.gaps] at h3
  simp only at h1
  omega
theorem sum_map_mul {f : Grp → Int} (c : Int) : ∀ l : List Grp, (l.map fun g => c * f g).sum = c * (l.map f).sum
  | [] => by simp
  | g :: l => by
    have := sum_map_mul (f := f) c l
    rw [List.map_cons, List.sum_cons, List.map_cons, List.sum_cons, this, Int.mul_add]
theorem place_hi {N : List Note} {all : List Grp} (hg : ∀ g ∈ all, ∀ x ∈ g.gaps, x.hi ≤ 400000) {f n : Nat} (hn : (outV all).length ≤ n) : (placeG N all f).hi ≤ picB N f + 400000 * n := by
  rw [placeG_eq]
  simp only
  have h1 := sum_map_le (f := fun g => (partG g (partF f)).hi) (g := fun g => 400000 * sumG (fun _ => 1) g.gaps) (l := all) fun g hgm => part_hi (hg g hgm) _
  rw [sum_map_mul, ← outV_lenI] at h1
  omega
theorem pic_upto (l : List Note) : ∀ f : Nat, 0 ≤ picB l f ∧ picB l f ≤ f
  | 0 => by simp [picB]
  | f + 1 => by
    have := pic_upto l f
    rw [picB]; split <;> omega
theorem place_no {T : Task} {f : Int} (h : (placeAns T f).2 ≠ 0) : (placeAns T f).1 = ⟨0, 0⟩ := by
  unfold placeAns at h ⊢
  split
  · rfl
  · split
    · rfl
    · split
      · rfl
      · split
        · rfl
        · rename_i h1 h2 h3 h4
          rw [if_neg h1, if_neg h2, if_neg h3, if_neg h4] at h
          exact absurd rfl h
/-- What the law asks of Place. -/
structure ClimbA (T : Task) (f : Int) (a : Span) : Prop where
  chk : (checkV T).2.2 = 0
  lo : 0 ≤ a.lo ∧ a.lo ≤ a.hi ∧ a.hi ≤ 100000000000000
  fr : 0 ≤ f ∧ f ≤ 200000
  pc : ∀ p ∈ pieceK (standV T.notes) T.reel.frames.toNat, 0 ≤ p.from_ ∧ p.from_ ≤ p.until_ ∧ p.until_ ≤ 200000
  next : ∀ p ∈ pieceK (standV T.notes) T.reel.frames.toNat, p.leader = false → max p.from_ (f + 1) ≤ p.until_ → ∃ b, placeAns T (max p.from_ (f + 1)) = (b, 0) ∧ a.lo < b.lo ∧ a.hi < b.hi ∧ (p.from_ ≤ f → b = ⟨a.lo + 1, a.hi + 1⟩)
theorem climb_all {T : Task} {f : Int} {a : Span} (h : placeAns T f = (a, 0)) : ClimbA T f a := by
  unfold placeAns at h
  by_cases h1 : (checkV T).2.2 ≠ 0
  · rw [if_pos h1] at h; simp only [Prod.mk.injEq] at h; exact absurd h.2 h1
  rw [if_neg h1] at h
  by_cases h2 : inB f 0 (T.reel.frames - 1) = false
  · rw [if_pos h2] at h; cases h
  rw [if_neg h2] at h
  by_cases h3 : about (standV T.notes) 3 f = true
  · rw [if_pos h3] at h; cases h
  rw [if_neg h3] at h
  by_cases h4 : okT T = false
  · rw [if_pos h4] at h; cases h
  rw [if_neg h4] at h
  have hp := task_p (T := T) (Decidable.not_not.1 h1)
  have hPL : ∀ n : Int, placeAns T n = if inB n 0 (T.reel.frames - 1) = false then (⟨0, 0⟩, 7) else if about (standV T.notes) 3 n = true then (⟨0, 0⟩, 4) else (placeG (standV T.notes) (grpsT T).1 n.toNat, 0) := fun n => by
    unfold placeAns; rw [if_neg h1, if_neg h4]
  obtain ⟨F, hF⟩ : ∃ F, F = T.reel.frames.toNat := ⟨_, rfl⟩
  rw [← hF] at hp
  have hfr := hp.fr
  have hF1 := hp.F1
  have hx := inB_iff.1 (by simpa using h2 : inB f 0 (T.reel.frames - 1) = true)
  obtain rfl : placeG (standV T.notes) (grpsT T).1 f.toNat = a := by simpa using h
  have hab : about (standV T.notes) 3 ((f.toNat : Nat) : Int) = false := by rw [show ((f.toNat : Nat) : Int) = f by omega]; simpa using h3
  have hgp : ∀ g ∈ (grpsT T).1, ∀ x ∈ g.gaps, 0 ≤ x.lo ∧ x.lo ≤ x.hi ∧ x.hi ≤ 400000 := fun g hg x hxg => by
    have := hp.gaps.mem x (hp.part.sub g hg x hxg)
    omega
  have hall : ∀ g ∈ (grpsT T).1, grpOk g = true := by
    have : okT T = true := by simpa using h4
    unfold okT at this
    exact fun g hg => List.all_eq_true.1 this g hg
  have hs : ∀ g ∈ (grpsT T).1, ∀ y ∈ g.gaps, y ∈ (gapsN F (standV T.notes)).1 := fun g hg y hy => by rw [← hp.eg]; exact hp.part.sub g hg y hy
  have hlo := place_ok (l := standV T.notes) (all := (grpsT T).1) (fun g hg => ⟨fun x hxg => ⟨(hgp g hg x hxg).1, (hgp g hg x hxg).2.1⟩, hp.is g hg, hall g hg⟩) f.toNat
  have hln := inFr_len (l := (gapsT T).1) (a := 0) (b := (F : Int)) hp.gaps.ord (fun g hg => by have := hp.gaps.mem g hg; omega) (by omega)
  have hhi := place_hi (N := standV T.notes) (all := (grpsT T).1) (fun g hg x hxg => (hgp g hg x hxg).2.2) (f := f.toNat) (n := F + 1) (by rw [hp.len]; omega)
  have hpb := pic_upto (standV T.notes) f.toNat
  have hinv := pieceK_inv (standV T.notes) F
  refine ⟨Decidable.not_not.1 h1, ⟨hlo.2, hlo.1, by omega⟩, ⟨hx.1, by omega⟩, fun p hpm => ?_, fun p hpm hl hn => ?_⟩
  · rw [← hF] at hpm
    have := hinv.chain.mem p hpm
    omega
  · rw [← hF] at hpm
    have hm := hinv.chain.mem p hpm
    obtain ⟨n, hnn⟩ : ∃ n : Nat, (n : Int) = max p.from_ (f + 1) := ⟨(max p.from_ (f + 1)).toNat, by omega⟩
    rw [← hnn] at hn ⊢
    have hnb : about (standV T.notes) 3 (n : Int) = false := by rw [hinv.lead p hpm _ (by omega) hn, hl]
    refine ⟨placeG (standV T.notes) (grpsT T).1 n, ?_, ?_⟩
    · rw [hPL, if_neg (by rw [inB_iff.2 (by omega)]; simp), if_neg (by rw [hnb]; simp)]
      rfl
    · have hc := place_climbs (l := standV T.notes) (all := (grpsT T).1) (fun g hg x hxg => ⟨(hgp g hg x hxg).1, by have := hgp g hg x hxg; omega⟩) (a := f.toNat) (b := n) (by omega) hab
      refine ⟨by omega, by omega, fun hw => ?_⟩
      obtain rfl : n = f.toNat + 1 := by omega
      exact place_within hab fun g hg x hxg he => gaps_within hp.st (hs g hg x hxg) hpm ⟨by omega, by omega⟩
end Go.Proofs.YtfcpiemapekffaaGreatDoor.D
