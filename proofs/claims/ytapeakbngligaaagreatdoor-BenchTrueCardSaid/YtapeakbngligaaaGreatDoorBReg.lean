/-
  Regions that draw their order: trees with up to three operations ready.
-/
import Derived.Test.YtapeakbngligaaaGreatDoorDReg
namespace Go.Proofs.YtapeakbngligaaaGreatDoor
open Go.RowKit
set_option linter.unusedVariables false
set_option linter.unusedSimpArgs false
inductive OV where
  | leaf
  | flt (fs : List Nat) (t : OV)
  | one (i : Nat) (t : OV)
  | two (i : Nat) (t : OV) (j : Nat) (u : OV)
  | thr (i : Nat) (t : OV) (j : Nat) (u : OV) (k : Nat) (v : OV)
def OV.len : OV → Nat
  | .leaf => 0
  | .flt fs t => fs.length + t.len
  | .one _ t => t.len + 1
  | .two _ t _ _ => t.len + 1
  | .thr _ t _ _ _ _ => t.len + 1
def OV.chk (md : Region.Mode) (ops : Array Oper) : OV → Array Bool → Bool
  | .leaf, listed => (Region.ready md ops listed).isEmpty
  | .flt fs t, listed => hinvB md ops (fun _ => false) listed && fs.all (fun i => decide (i < ops.size)) && takes3B md ops (fun _ => false) fs listed && t.chk md ops (markAll fs listed)
  | .one i t, listed => decide (Region.ready md ops listed = [i]) && decide (i < ops.size) && t.chk md ops (listed.setIfInBounds i true)
  | .two i t j u, listed => decide (Region.ready md ops listed = [i, j]) && decide (i < ops.size) && decide (j < ops.size) && decide (t.len = u.len) && t.chk md ops (listed.setIfInBounds i true) && u.chk md ops (listed.setIfInBounds j true)
  | .thr i t j u k v, listed => decide (Region.ready md ops listed = [i, j, k]) && decide (i < ops.size) && decide (j < ops.size) && decide (k < ops.size) && decide (t.len = u.len) && decide (t.len = v.len) && t.chk md ops (listed.setIfInBounds i true) && u.chk md ops (listed.setIfInBounds j true) && v.chk md ops (listed.setIfInBounds k true)
section
variable {P : Program} {md : Region.Mode} {Q : Exit → Act → World → Prop} {S : World → Prop}
def wpV (P : Program) (l : List Oper) (Q : Exit → Act → World → Prop) (S : World → Prop) : OV → Act → World → Prop
  | .leaf, a, w => Q .normal a w
  | .flt fs t, a, w => wpQS P l.toArray S (fun a' => wpV P l Q S t a' w) (picks l fs) a
  | .one i t, a, w => wpList P l.toArray (Exit.then (fun a' w' => S w' ∧ wpV P l Q S t a' w') Q) (picks l [i]) a w
  | .two i t j u, a, w => wpList P l.toArray (Exit.then (fun a' w' => S w' ∧ wpV P l Q S t a' w') Q) (picks l [i]) a w ∧ wpList P l.toArray (Exit.then (fun a' w' => S w' ∧ wpV P l Q S u a' w') Q) (picks l [j]) a w
  | .thr i t j u k v, a, w => wpList P l.toArray (Exit.then (fun a' w' => S w' ∧ wpV P l Q S t a' w') Q) (picks l [i]) a w ∧ wpList P l.toArray (Exit.then (fun a' w' => S w' ∧ wpV P l Q S u a' w') Q) (picks l [j]) a w ∧ wpList P l.toArray (Exit.then (fun a' w' => S w' ∧ wpV P l Q S v a' w') Q) (picks l [k]) a w
theorem wpAnyH_treeV {l : List Oper} (hns : Region.noSelect l.toArray = true) (hQ : ∀ c a (d : Option Tmp) v w, Q (.panic c) (a.put d v) w → Q (.panic c) a w) : ∀ (t : OV) (listed : Array Bool) (a : Act) (w : World), S w → t.chk md l.toArray listed = true → wpV P l Q S t a w → wpAnyH P md l.toArray Q S t.len listed a w
  | .leaf, listed, a, w, hS, hB, h => ⟨by simpa [OV.chk] using hB, h⟩
  | .flt fs t, listed, a, w, hS, hB, h => by
    simp only [OV.chk, Bool.and_eq_true] at hB
    obtain ⟨⟨⟨hi, hlt⟩, htk⟩, hB⟩ := hB
    have hlt' : ∀ i ∈ fs, i < l.length := fun i hi => by
      have := List.all_eq_true.1 hlt i hi
      simpa using this
    exact wpAnyH_neutral (tl := fun _ => false) hns hQ hS fs (picks l fs) listed a (picks_map hlt') (hinv_of hi) htk (wpQS_mono _ _ (fun a1 h1 _ => wpAnyH_treeV hns hQ t _ a1 w hS hB h1) h)
  | .one i t, listed, a, w, hS, hB, h => by
    simp only [OV.chk, Bool.and_eq_true, decide_eq_true_eq] at hB
    obtain ⟨⟨hr, hi⟩, hB⟩ := hB
    have hi' : i < l.length := by simpa using hi
    have h : wpList P l.toArray (Exit.then (fun a' w' => S w' ∧ wpV P l Q S t a' w') Q) (picks l [i]) a w := h
    rw [picks_one hi'] at h
    refine ⟨fun h1 => (by rw [hr] at h1; cases h1), fun k hk => ?_⟩
    rw [hr] at hk
    have hik : k = i := by simpa using hk
    subst hik
    exact wpOp_mono (fun a' w' h' => ⟨h'.1, wpAnyH_treeV hns hQ t _ a' w' h'.1 hB h'.2⟩) (wpOp_then (show l.toArray[k]? = some l[k] by simp) h)
  | .two i t j u, listed, a, w, hS, hB, h => by
    simp only [OV.chk, Bool.and_eq_true, decide_eq_true_eq] at hB
    obtain ⟨⟨⟨⟨⟨hr, hi⟩, hj⟩, hl⟩, hB1⟩, hB2⟩ := hB
    have hi' : i < l.length := by simpa using hi
    have hj' : j < l.length := by simpa using hj
    have h : wpList P l.toArray (Exit.then (fun a' w' => S w' ∧ wpV P l Q S t a' w') Q) (picks l [i]) a w ∧ wpList P l.toArray (Exit.then (fun a' w' => S w' ∧ wpV P l Q S u a' w') Q) (picks l [j]) a w := h
    obtain ⟨h1, h2⟩ := h
    rw [picks_one hi'] at h1
    rw [picks_one hj'] at h2
    refine ⟨fun h1 => (by rw [hr] at h1; cases h1), fun k hk => ?_⟩
    rw [hr] at hk
    rcases List.mem_cons.1 hk with rfl | hk
    · exact wpOp_mono (fun a' w' h' => ⟨h'.1, wpAnyH_treeV hns hQ t _ a' w' h'.1 hB1 h'.2⟩) (wpOp_then (show l.toArray[k]? = some l[k] by simp) h1)
    · have hkj : k = j := by simpa using hk
      subst hkj
      exact wpOp_mono (fun a' w' h' => ⟨h'.1, (show wpAnyH P md l.toArray Q S t.len _ a' w' by rw [hl]; exact wpAnyH_treeV hns hQ u _ a' w' h'.1 hB2 h'.2)⟩) (wpOp_then (show l.toArray[k]? = some l[k] by simp) h2)
  | .thr i t j u k v, listed, a, w, hS, hB, h => by
    simp only [OV.chk, Bool.and_eq_true, decide_eq_true_eq] at hB
    obtain ⟨⟨⟨⟨⟨⟨⟨⟨hr, hi⟩, hj⟩, hk⟩, hl⟩, hl2⟩, hB1⟩, hB2⟩, hB3⟩ := hB
    have hi' : i < l.length := by simpa using hi
    have hj' : j < l.length := by simpa using hj
    have hk' : k < l.length := by simpa using hk
    obtain ⟨h1, h2, h3⟩ := h
    rw [picks_one hi'] at h1
    rw [picks_one hj'] at h2
    rw [picks_one hk'] at h3
    refine ⟨fun h1 => (by rw [hr] at h1; cases h1), fun q hq => ?_⟩
    rw [hr] at hq
    rcases List.mem_cons.1 hq with rfl | hq
    · exact wpOp_mono (fun a' w' h' => ⟨h'.1, wpAnyH_treeV hns hQ t _ a' w' h'.1 hB1 h'.2⟩) (wpOp_then (show l.toArray[q]? = some l[q] by simp) h1)
    · rcases List.mem_cons.1 hq with rfl | hq
      · exact wpOp_mono (fun a' w' h' => ⟨h'.1, (show wpAnyH P md l.toArray Q S t.len _ a' w' by rw [hl]; exact wpAnyH_treeV hns hQ u _ a' w' h'.1 hB2 h'.2)⟩) (wpOp_then (show l.toArray[q]? = some l[q] by simp) h2)
      · have hqk : q = k := by simpa using hq
        subst hqk
        exact wpOp_mono (fun a' w' h' => ⟨h'.1, (show wpAnyH P md l.toArray Q S t.len _ a' w' by rw [hl2]; exact wpAnyH_treeV hns hQ v _ a' w' h'.1 hB3 h'.2)⟩) (wpOp_then (show l.toArray[q]? = some l[q] by simp) h3)
def planV (ops : Array Oper) (t : OV) : Bool :=
  Region.noSelect ops && decide (t.len = ops.size) && t.chk .any ops (Array.replicate ops.size false)
theorem wpAny_treeV (S : World → Prop) (t : OV) {l : List Oper} {a : Act} {w : World} (hext : ∀ W, Ext2 w W → S W) (hB : planV l.toArray t = true)
    (hQ : ∀ c a (d : Option Tmp) v w, Q (.panic c) (a.put d v) w → Q (.panic c) a w)
    (h : ∀ W, Ext2 w W → wpV P l Q S t a W) :
    wpAny P .any l.toArray Q l.toArray.size (Array.replicate l.toArray.size false) a w.drew := by
  simp only [planV, Bool.and_eq_true, decide_eq_true_eq] at hB
  obtain ⟨⟨hns, hlen⟩, hch⟩ := hB
  refine wpAny_of_held (S := S) _ _ _ _ ?_
  rw [← hlen]
  have := wpAnyH_treeV (P := P) (md := .any) (Q := Q) (S := S) hns hQ t (Array.replicate l.toArray.size false) a w.drew (hext _ (Ext2.drew w)) hch (h _ (Ext2.drew w))
  rwa [hlen] at this ⊢
theorem region_treeV (S : World → Prop) (t : OV) {id : Nat} {l : List Oper} {a : Act} {w : World} (hext : ∀ W, Ext2 w W → S W) (hm : P.follows .mixedOrders = true) (hB : planV l.toArray t = true)
    (hQ : ∀ c a (d : Option Tmp) v w, Q (.panic c) (a.put d v) w → Q (.panic c) a w)
    (h : ∀ W, Ext2 w W → wpV P l Q S t a W) :
    (Code.region id l.toArray true).wp P Q a w := wp_region_any hm (wpAny_treeV S t hext hB hQ h)
/-- An end that no panic comes to. -/
def noPan (Q : Exit → Act → World → Prop) : Exit → Act → World → Prop
  | .panic _, _, _ => False
  | e, a, w => Q e a w
theorem noPan_le {Q : Exit → Act → World → Prop} {e : Exit} {a : Act} {w : World} (h : noPan Q e a w) : Q e a w := by
  cases e <;> first | exact h | exact h.elim
theorem noPan_normal {Q : Exit → Act → World → Prop} {a : Act} {w : World} (h : Q .normal a w) : noPan Q .normal a w := h
theorem region_treeVN (S : World → Prop) (t : OV) {id : Nat} {l : List Oper} {a : Act} {w : World} (hext : ∀ W, Ext2 w W → S W) (hm : P.follows .mixedOrders = true) (hB : planV l.toArray t = true)
    (h : ∀ W, Ext2 w W → wpV P l (noPan Q) S t a W) :
    (Code.region id l.toArray true).wp P Q a w := Code.wp_mono (fun _ _ _ h => noPan_le h) (region_treeV (Q := noPan Q) S t hext hm hB (fun c a d v w h => h) h)
theorem round_region_treeV (S : World → Prop) (t : OV) {l0 m : Nat} {id : Nat} {l : List Oper} {a : Act} {w : World} (hext : ∀ W, Ext2 w W → S W) (hn : noDefers l.toArray = true) (hq : ¬ LetsOut Q) (hm : P.follows .mixedOrders = true) (hB : planV l.toArray t = true)
    (hQ : ∀ c a (d : Option Tmp) v w, Q (.panic c) (a.put d v) w → Q (.panic c) a w)
    (h : ∀ W, Ext2 w W → wpV P l Q S t a W) :
    (Code.region id l.toArray true).wpIn (Fence.wide.inRound l0) m P Q a w := round_region_any hn hq hm (wpAny_treeV S t hext hB hQ h)
theorem wpV_flt {l : List Oper} {fs : List Nat} {t : OV} {a : Act} {w : World} (h : wpQS P l.toArray S (fun a' => wpV P l Q S t a' w) (picks l fs) a) : wpV P l Q S (.flt fs t) a w := h
theorem wpV_one {l : List Oper} {i : Nat} {t : OV} {a : Act} {w : World} (h : wpList P l.toArray (Exit.then (fun a' w' => S w' ∧ wpV P l Q S t a' w') Q) (picks l [i]) a w) : wpV P l Q S (.one i t) a w := h
theorem wpV_two {l : List Oper} {i j : Nat} {t u : OV} {a : Act} {w : World} (h : wpList P l.toArray (Exit.then (fun a' w' => S w' ∧ wpV P l Q S t a' w') Q) (picks l [i]) a w) (g : wpList P l.toArray (Exit.then (fun a' w' => S w' ∧ wpV P l Q S u a' w') Q) (picks l [j]) a w) : wpV P l Q S (.two i t j u) a w := ⟨h, g⟩
theorem wpV_thr {l : List Oper} {i j k : Nat} {t u v : OV} {a : Act} {w : World} (h : wpList P l.toArray (Exit.then (fun a' w' => S w' ∧ wpV P l Q S t a' w') Q) (picks l [i]) a w) (g : wpList P l.toArray (Exit.then (fun a' w' => S w' ∧ wpV P l Q S u a' w') Q) (picks l [j]) a w) (g3 : wpList P l.toArray (Exit.then (fun a' w' => S w' ∧ wpV P l Q S v a' w') Q) (picks l [k]) a w) : wpV P l Q S (.thr i t j u k v) a w := ⟨h, g, g3⟩
theorem andV_name {A : World → Prop} {l : List Oper} {t : OV} {a : Act} {w : World} (h : ∀ w0, w0 = w → A w0 ∧ wpV P l Q S t a w0) : A w ∧ wpV P l Q S t a w := h w rfl
theorem wpV_leaf {l : List Oper} {a : Act} {w : World} (h : Q .normal a w) : wpV P l Q S .leaf a w := h
/-- A class of worlds with three blocks. -/
def At3 (b : Nat) (c : Array Value) (t : TypeId) (b' : Nat) (c' : Array Value) (t' : TypeId) (b2 : Nat) (c2 : Array Value) (t2 : TypeId) (W : World) : Prop := W.heap[b]? = some (.cells c t (0, 0)) ∧ W.heap[b']? = some (.cells c' t' (0, 0)) ∧ W.heap[b2]? = some (.cells c2 t2 (0, 0))
theorem at3_cell {b b' b2 : Nat} {c c' c2 : Array Value} {t t' t2 : TypeId} (x : Cls (At3 b c t b' c' t' b2 c2 t2)) (o : Nat) : x.1.cell? ⟨b, o, none⟩ = c[o]? := by
  have h := x.2.1
  simp [World.cell?, h]
theorem at3_cell' {b b' b2 : Nat} {c c' c2 : Array Value} {t t' t2 : TypeId} (x : Cls (At3 b c t b' c' t' b2 c2 t2)) (o : Nat) : x.1.cell? ⟨b', o, none⟩ = c'[o]? := by
  have h := x.2.2.1
  simp [World.cell?, h]
theorem at3_cell2 {b b' b2 : Nat} {c c' c2 : Array Value} {t t' t2 : TypeId} (x : Cls (At3 b c t b' c' t' b2 c2 t2)) (o : Nat) : x.1.cell? ⟨b2, o, none⟩ = c2[o]? := by
  have h := x.2.2.2
  simp [World.cell?, h]
theorem At3.ext {b b' b2 : Nat} {c c' c2 : Array Value} {t t' t2 : TypeId} {w : World} (h : At3 b c t b' c' t' b2 c2 t2 w) : ∀ W, Ext2 w W → At3 b c t b' c' t' b2 c2 t2 W := fun W hW => ⟨(Below.block hW b (Array.getElem?_eq_some_iff.1 h.1).1).trans h.1, (Below.block hW b' (Array.getElem?_eq_some_iff.1 h.2.1).1).trans h.2.1, (Below.block hW b2 (Array.getElem?_eq_some_iff.1 h.2.2).1).trans h.2.2⟩
theorem meetV3 {G : Prop} {α β γ : Type} {C : α → β → γ → World → Prop} {l : List Oper} {t : OV} {A : α → β → γ → Act} (h : (∀ n m r u, C n m r u → wpV P l Q S t (A n m r) u) → G) (k : ∀ n m r u, C n m r u → wpV P l Q S t (A n m r) u) : G := h k
end
end Go.Proofs.YtapeakbngligaaaGreatDoor
