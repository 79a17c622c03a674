/-
  The setting of a word, plain.
-/
import Derived.Test.YtahgbecfaihfpaaDoorTLoad
namespace Go.Proofs.YtahgbecfaihfpaaDoor.D
def baL (l : List UInt8) : ByteArray := ⟨l.toArray⟩
/-- One more glyph ahead of a setting, if it is better than what there is. -/
def better (g : Nat) (r : Option (List Nat)) (best : Option (List Nat)) : Option (List Nat) :=
  match r with
  | none => best
  | some l => match best with
    | none => some (g :: l)
    | some b => if l.length + 1 < b.length then some (g :: l) else some b
/-- The glyphs of so many bytes are looked at. -/
def candS (F : Font) (w : List UInt8) (r : Nat → Option (List Nat)) (long : Nat) (best : Option (List Nat)) : Option (List Nat) :=
  if long ≤ w.length then
    if gIx F.glyphs (baL (w.take long)) F.glyphs.length < F.glyphs.length then better (gIx F.glyphs (baL (w.take long)) F.glyphs.length) (r long) best else best
  else best
def stepS (F : Font) (w : List UInt8) (T : List (Option (List Nat))) : Option (List Nat) :=
  candS F w (fun k => T.getD (k - 1) none) 1 (candS F w (fun k => T.getD (k - 1) none) 2 (candS F w (fun k => T.getD (k - 1) none) 3 none))
def tblS (F : Font) : List UInt8 → List (Option (List Nat))
  | [] => [some []]
  | c :: w => stepS F (c :: w) (tblS F w) :: tblS F w
/-- The setting of a word. -/
def setS (F : Font) (w : List UInt8) : Option (List Nat) := (tblS F w).getD 0 none
theorem tblS_at (F : Font) : ∀ (w : List UInt8) (k : Nat), k ≤ w.length → (tblS F w).getD k none = setS F (w.drop k)
  | _, 0, _ => rfl
  | [], k + 1, h => absurd h (by simp)
  | c :: w, k + 1, h => by
    have := tblS_at F w k (by simpa using h)
    simpa [tblS] using this
theorem candS_congr (F : Font) (w : List UInt8) {r r' : Nat → Option (List Nat)} {long : Nat} (h : long ≤ w.length → r long = r' long) (best : Option (List Nat)) : candS F w r long best = candS F w r' long best := by
  unfold candS
  split
  · rename_i h1; rw [h h1]
  · rfl
theorem setS_nil (F : Font) : setS F [] = some [] := rfl
/-- A setting by those of the ends. -/
theorem setS_eq (F : Font) {w : List UInt8} (hw : w ≠ []) : setS F w = candS F w (fun k => setS F (w.drop k)) 1 (candS F w (fun k => setS F (w.drop k)) 2 (candS F w (fun k => setS F (w.drop k)) 3 none)) := by
  cases w with
  | nil => exact absurd rfl hw
  | cons c w =>
    show stepS F (c :: w) (tblS F w) = _
    unfold stepS
    have h : ∀ k, 1 ≤ k → k ≤ (c :: w).length → (tblS F w).getD (k - 1) none = setS F ((c :: w).drop k) := fun k h1 h2 => by
      obtain ⟨j, rfl⟩ : ∃ j, k = j + 1 := ⟨k - 1, by omega⟩
      rw [Nat.add_sub_cancel, tblS_at F w j (by simpa using h2)]; rfl
    have e : ∀ long best, 1 ≤ long → candS F (c :: w) (fun k => (tblS F w).getD (k - 1) none) long best = candS F (c :: w) (fun k => setS F ((c :: w).drop k)) long best := fun long best h1 => candS_congr F _ (h long h1) best
    rw [e 3 none (by omega), e 2 _ (by omega), e 1 _ (by omega)]
/-- What the loop has found behind the long ones: from 3 down to k + 1. -/
def goS (F : Font) (w : List UInt8) (k : Nat) : Option (List Nat) :=
  if k = 0 then candS F w (fun k => setS F (w.drop k)) 1 (candS F w (fun k => setS F (w.drop k)) 2 (candS F w (fun k => setS F (w.drop k)) 3 none))
  else if k = 1 then candS F w (fun k => setS F (w.drop k)) 2 (candS F w (fun k => setS F (w.drop k)) 3 none)
  else if k = 2 then candS F w (fun k => setS F (w.drop k)) 3 none else none
theorem goS_step (F : Font) (w : List UInt8) {k : Nat} (h1 : 1 ≤ k) (h3 : k ≤ 3) : goS F w (k - 1) = candS F w (fun k => setS F (w.drop k)) k (goS F w k) := by
  rcases (by omega : k = 1 ∨ k = 2 ∨ k = 3) with rfl | rfl | rfl <;> rfl
theorem goS_end (F : Font) {w : List UInt8} (hw : w ≠ []) : goS F w 0 = setS F w := (setS_eq F hw).symm
theorem candS_long (F : Font) (w : List UInt8) (r : Nat → Option (List Nat)) {long : Nat} (h : ¬ long ≤ w.length) (best : Option (List Nat)) : candS F w r long best = best := if_neg h
/-- Where the loop begins. -/
theorem goS_start (F : Font) {w : List UInt8} {k : Nat} (hk : k = min 3 w.length) : goS F w k = none := by
  rcases (by omega : k = 0 ∨ k = 1 ∨ k = 2 ∨ k = 3) with rfl | rfl | rfl | rfl
  · unfold goS; rw [if_pos rfl, candS_long _ _ _ (by omega), candS_long _ _ _ (by omega), candS_long _ _ _ (by omega)]
  · unfold goS; rw [if_neg (by omega), if_pos rfl, candS_long _ _ _ (by omega), candS_long _ _ _ (by omega)]
  · unfold goS; rw [if_neg (by omega), if_neg (by omega), if_pos rfl, candS_long _ _ _ (by omega)]
  · rfl
theorem better_some {g : Nat} {r best : Option (List Nat)} {l : List Nat} (h : better g r best = some l) : l ≠ [] ∨ best = some l := by
  unfold better at h
  split at h
  · exact .inr h
  · split at h
    · left; simp only [Option.some.injEq] at h; rw [← h]; simp
    · split at h
      · left; simp only [Option.some.injEq] at h; rw [← h]; simp
      · exact .inr h
theorem better_len {g n : Nat} {r best : Option (List Nat)} (hr : ∀ l, r = some l → l.length + 1 ≤ n) (hb : ∀ l, best = some l → l.length ≤ n) : ∀ l, better g r best = some l → l.length ≤ n := fun l h => by
  cases r with
  | none => exact hb l h
  | some l' =>
    have h1 := hr l' rfl
    cases best with
    | none =>
      simp only [better, Option.some.injEq] at h
      rw [← h]; simpa using h1
    | some b =>
      simp only [better] at h
      split at h
      · simp only [Option.some.injEq] at h; rw [← h]; simpa using h1
      · exact hb l h
theorem candS_len {F : Font} {w : List UInt8} {r : Nat → Option (List Nat)} {long n : Nat} {best : Option (List Nat)} (hr : long ≤ w.length → ∀ l, r long = some l → l.length + 1 ≤ n) (hb : ∀ l, best = some l → l.length ≤ n) : ∀ l, candS F w r long best = some l → l.length ≤ n := fun l h => by
  unfold candS at h
  split at h
  · rename_i h1
    split at h
    · exact better_len (hr h1) hb l h
    · exact hb l h
  · exact hb l h
theorem setS_len (F : Font) : ∀ (n : Nat) (w : List UInt8), w.length ≤ n → ∀ l, setS F w = some l → l.length ≤ w.length
  | _, [], _, l, h => by
    rw [setS_nil] at h
    simp only [Option.some.injEq] at h; rw [← h]; exact Nat.le_refl _
  | 0, _ :: _, hn, _, _ => absurd hn (by simp)
  | n + 1, c :: w, hn, l, h => by
    rw [setS_eq F (by simp)] at h
    have hr : ∀ k, 1 ≤ k → k ≤ (c :: w).length → ∀ l, setS F ((c :: w).drop k) = some l → l.length + 1 ≤ (c :: w).length := fun k h1 h2 l hl => by
      have h3 := setS_len F n ((c :: w).drop k) (by rw [List.length_drop]; simp at hn ⊢; omega) l hl
      rw [List.length_drop] at h3; omega
    exact candS_len (hr 1 (by omega)) (candS_len (hr 2 (by omega)) (candS_len (hr 3 (by omega)) (fun l h => by cases h))) l h
theorem goS_len (F : Font) {w : List UInt8} (k : Nat) {l : List Nat} (h : goS F w k = some l) : l.length ≤ w.length := by
  have hr : ∀ k, 1 ≤ k → k ≤ w.length → ∀ l, setS F (w.drop k) = some l → l.length + 1 ≤ w.length := fun k h1 h2 l hl => by
    have h3 := setS_len F _ (w.drop k) (Nat.le_refl _) l hl
    rw [List.length_drop] at h3; omega
  unfold goS at h
  split at h
  · exact candS_len (hr 1 (by omega)) (candS_len (hr 2 (by omega)) (candS_len (hr 3 (by omega)) (fun l h => by cases h))) l h
  · split at h
    · exact candS_len (hr 2 (by omega)) (candS_len (hr 3 (by omega)) (fun l h => by cases h)) l h
    · split at h
      · exact candS_len (hr 3 (by omega)) (fun l h => by cases h) l h
      · cases h
end Go.Proofs.YtahgbecfaihfpaaDoor.D
