/-
  Regions that draw: reads that hold in a class of worlds float; the rest goes by a tree of orders. Program independent.
-/
import Derived.Test.YtkidicfpfknfoaaDoorDRegX
namespace Go.Proofs.YtkidicfpfknfoaaDoor
open Go.RowKit
set_option linter.unusedVariables false
set_option linter.unusedSimpArgs false
/-- Orders: one operation is ready, or two of them are. -/
inductive OT where
  | leaf
  | one (i : Nat) (t : OT)
  | two (i : Nat) (t : OT) (j : Nat) (u : OT)
def OT.len : OT → Nat
  | .leaf => 0
  | .one _ t => t.len + 1
  | .two _ t _ _ => t.len + 1
def OT.chk (md : Region.Mode) (ops : Array Oper) : OT → Array Bool → Bool
  | .leaf, listed => (Region.ready md ops listed).isEmpty
  | .one i t, listed => decide (Region.ready md ops listed = [i]) && decide (i < ops.size) && t.chk md ops (listed.setIfInBounds i true)
  | .two i t j u, listed => decide (Region.ready md ops listed = [i, j]) && decide (i < ops.size) && decide (j < ops.size) && decide (t.len = u.len) && t.chk md ops (listed.setIfInBounds i true) && u.chk md ops (listed.setIfInBounds j true)
section
variable {P : Program} {md : Region.Mode} {Q : Exit → Act → World → Prop} {S : World → Prop}
def wpT (P : Program) (l : List Oper) (Q : Exit → Act → World → Prop) (S : World → Prop) : OT → Act → World → Prop
  | .leaf, a, w => Q .normal a w
  | .one i t, a, w => wpList P l.toArray (Exit.then (fun a' w' => S w' ∧ wpT P l Q S t a' w') Q) (picks l [i]) a w
  | .two i t j u, a, w => wpList P l.toArray (Exit.then (fun a' w' => S w' ∧ wpT P l Q S t a' w') Q) (picks l [i]) a w ∧ wpList P l.toArray (Exit.then (fun a' w' => S w' ∧ wpT P l Q S u a' w') Q) (picks l [j]) a w
theorem picks_one {l : List Oper} {i : Nat} (hi : i < l.length) : picks l [i] = [l[i]] := by rw [picks, List.drop_eq_getElem_cons hi]; rfl
theorem wpAnyH_tree {l : List Oper} : ∀ (t : OT) (listed : Array Bool) (a : Act) (w : World), t.chk md l.toArray listed = true → wpT P l Q S t a w → wpAnyH P md l.toArray Q S t.len listed a w
  | .leaf, listed, a, w, hB, h => ⟨by simpa [OT.chk] using hB, h⟩
  | .one i t, listed, a, w, hB, h => by
    simp only [OT.chk, Bool.and_eq_true, decide_eq_true_eq] at hB
    obtain ⟨⟨hr, hi⟩, hB⟩ := hB
    have hi' : i < l.length := by simpa using hi
    have h : wpList P l.toArray (Exit.then (fun a' w' => S w' ∧ wpT P l Q S t a' w') Q) (picks l [i]) a w := h
    rw [picks_one hi'] at h
    refine ⟨fun h1 => (by rw [hr] at h1; cases h1), fun k hk => ?_⟩
    rw [hr] at hk
    have hik : k = i := by simpa using hk
    subst hik
    exact wpOp_mono (fun a' w' h' => ⟨h'.1, wpAnyH_tree t _ a' w' hB h'.2⟩) (wpOp_then (show l.toArray[k]? = some l[k] by simp) h)
  | .two i t j u, listed, a, w, hB, h => by
    simp only [OT.chk, Bool.and_eq_true, decide_eq_true_eq] at hB
    obtain ⟨⟨⟨⟨⟨hr, hi⟩, hj⟩, hl⟩, hB1⟩, hB2⟩ := hB
    have hi' : i < l.length := by simpa using hi
    have hj' : j < l.length := by simpa using hj
    have h : wpList P l.toArray (Exit.then (fun a' w' => S w' ∧ wpT P l Q S t a' w') Q) (picks l [i]) a w ∧ wpList P l.toArray (Exit.then (fun a' w' => S w' ∧ wpT P l Q S u a' w') Q) (picks l [j]) a w := h
    obtain ⟨h1, h2⟩ := h
    rw [picks_one hi'] at h1
    rw [picks_one hj'] at h2
    refine ⟨fun h1 => (by rw [hr] at h1; cases h1), fun k hk => ?_⟩
    rw [hr] at hk
    rcases List.mem_cons.1 hk with rfl | hk
    · exact wpOp_mono (fun a' w' h' => ⟨h'.1, wpAnyH_tree t _ a' w' hB1 h'.2⟩) (wpOp_then (show l.toArray[k]? = some l[k] by simp) h1)
    · have hkj : k = j := by simpa using hk
      subst hkj
      exact wpOp_mono (fun a' w' h' => ⟨h'.1, (show wpAnyH P md l.toArray Q S t.len _ a' w' by rw [hl]; exact wpAnyH_tree u _ a' w' hB2 h'.2)⟩) (wpOp_then (show l.toArray[k]? = some l[k] by simp) h2)
def planTB (ops : Array Oper) (fs : List Nat) (t : OT) : Bool :=
  Region.noSelect ops && decide (fs.length + t.len = ops.size) && fs.all (fun i => decide (i < ops.size)) && takes3B .any ops (fun _ => false) fs (Array.replicate ops.size false) && t.chk .any ops (markAll fs (Array.replicate ops.size false))
theorem wpAny_tree (S : World → Prop) (fs : List Nat) (t : OT) {l : List Oper} {a : Act} {w : World} (hext : ∀ W, Ext2 w W → S W) (hB : planTB l.toArray fs t = true)
    (hQ : ∀ c a (d : Option Tmp) v w, Q (.panic c) (a.put d v) w → Q (.panic c) a w)
    (h : wpQS P l.toArray S (fun a1 => ∀ W, Ext2 w W → wpT P l Q S t a1 W) (picks l fs) a) :
    wpAny P .any l.toArray Q l.toArray.size (Array.replicate l.toArray.size false) a w.drew := by
  simp only [planTB, Bool.and_eq_true, decide_eq_true_eq] at hB
  obtain ⟨⟨⟨⟨hns, hlen⟩, hlt⟩, htk⟩, hch⟩ := hB
  have hlt' : ∀ i ∈ fs, i < l.length := fun i hi => by
    have := List.all_eq_true.1 hlt i hi
    simpa using this
  refine wpAny_of_held (S := S) _ _ _ _ ?_
  rw [← hlen]
  have mono0 : ∀ (qs : List Oper) (a : Act) {K K' : Act → Prop}, (∀ a, K a → K' a) → wpQS P l.toArray S K qs a → wpQS P l.toArray S K' qs a := by
    intro qs
    induction qs with
    | nil => intro a K K' hk h; exact hk _ h
    | cons o qs ih =>
      intro a K K' hk h
      simp only [wpQS] at h ⊢
      split
      · rename_i hw; rw [if_pos hw] at h; obtain ⟨v, h1, h2⟩ := h; exact ⟨v, h1, ih _ hk h2⟩
      · rename_i hw; rw [if_neg hw] at h; exact ih _ hk h
  rw [hlen]
  have key := wpAnyH_neutral (P := P) (md := .any) (ops := l.toArray) (Q := Q) (S := S) (tl := fun _ => false) (f := t.len) hns hQ (hext _ (Ext2.drew w)) fs (picks l fs) (Array.replicate l.toArray.size false) a (picks_map hlt') (HInv.start _) htk
    (mono0 _ _ (fun a1 h1 _ => wpAnyH_tree t _ a1 w.drew hch (h1 _ (Ext2.drew w))) h)
  rwa [hlen] at key
theorem region_tree (S : World → Prop) (fs : List Nat) (t : OT) {id : Nat} {l : List Oper} {a : Act} {w : World} (hext : ∀ W, Ext2 w W → S W) (hm : P.follows .mixedOrders = true) (hB : planTB l.toArray fs t = true)
    (hQ : ∀ c a (d : Option Tmp) v w, Q (.panic c) (a.put d v) w → Q (.panic c) a w)
    (h : wpQS P l.toArray S (fun a1 => ∀ W, Ext2 w W → wpT P l Q S t a1 W) (picks l fs) a) :
    (Code.region id l.toArray true).wp P Q a w := wp_region_any hm (wpAny_tree S fs t hext hB hQ h)
theorem round_region_tree (S : World → Prop) {l0 m : Nat} (fs : List Nat) (t : OT) {id : Nat} {l : List Oper} {a : Act} {w : World} (hext : ∀ W, Ext2 w W → S W) (hn : noDefers l.toArray = true) (hq : ¬ LetsOut Q) (hm : P.follows .mixedOrders = true) (hB : planTB l.toArray fs t = true)
    (hQ : ∀ c a (d : Option Tmp) v w, Q (.panic c) (a.put d v) w → Q (.panic c) a w)
    (h : wpQS P l.toArray S (fun a1 => ∀ W, Ext2 w W → wpT P l Q S t a1 W) (picks l fs) a) :
    (Code.region id l.toArray true).wpIn (Fence.wide.inRound l0) m P Q a w := round_region_any hn hq hm (wpAny_tree S fs t hext hB hQ h)
theorem wpT_one {l : List Oper} {i : Nat} {t : OT} {a : Act} {w : World} (h : wpList P l.toArray (Exit.then (fun a' w' => S w' ∧ wpT P l Q S t a' w') Q) (picks l [i]) a w) : wpT P l Q S (.one i t) a w := h
theorem wpT_two {l : List Oper} {i j : Nat} {t u : OT} {a : Act} {w : World} (h : wpList P l.toArray (Exit.then (fun a' w' => S w' ∧ wpT P l Q S t a' w') Q) (picks l [i]) a w) (g : wpList P l.toArray (Exit.then (fun a' w' => S w' ∧ wpT P l Q S u a' w') Q) (picks l [j]) a w) : wpT P l Q S (.two i t j u) a w := ⟨h, g⟩
theorem then_name {N : Act → World → Prop} {Q : Exit → Act → World → Prop} {e : Exit} {a : Act} {w : World} (h : ∀ w0, w0 = w → Exit.then N Q e a w0) : Exit.then N Q e a w := h w rfl
theorem and_name {A : World → Prop} {l : List Oper} {t : OT} {a : Act} {w : World} (h : ∀ w0, w0 = w → A w0 ∧ wpT P l Q S t a w0) : A w ∧ wpT P l Q S t a w := h w rfl
theorem wpT_leaf {l : List Oper} {a : Act} {w : World} (h : Q .normal a w) : wpT P l Q S .leaf a w := h
end
/-- A class of worlds with two blocks. -/
def At2 (b : Nat) (c : Array Value) (t : TypeId) (b' : Nat) (c' : Array Value) (t' : TypeId) (W : World) : Prop := W.heap[b]? = some (.cells c t (0, 0)) ∧ W.heap[b']? = some (.cells c' t' (0, 0))
theorem at2_cell {b b' : Nat} {c c' : Array Value} {t t' : TypeId} (x : Cls (At2 b c t b' c' t')) (o : Nat) : x.1.cell? ⟨b, o, none⟩ = c[o]? := by
  have h := x.2.1
  simp [World.cell?, h]
theorem at2_cell' {b b' : Nat} {c c' : Array Value} {t t' : TypeId} (x : Cls (At2 b c t b' c' t')) (o : Nat) : x.1.cell? ⟨b', o, none⟩ = c'[o]? := by
  have h := x.2.2
  simp [World.cell?, h]
theorem At2.ext {b b' : Nat} {c c' : Array Value} {t t' : TypeId} {w : World} (h : w.heap[b]? = some (.cells c t (0, 0))) (h' : w.heap[b']? = some (.cells c' t' (0, 0))) : ∀ W, Ext2 w W → At2 b c t b' c' t' W := fun W hW => ⟨(Below.block hW b (Array.getElem?_eq_some_iff.1 h).1).trans h, (Below.block hW b' (Array.getElem?_eq_some_iff.1 h').1).trans h'⟩
end Go.Proofs.YtkidicfpfknfoaaDoor
