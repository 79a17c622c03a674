/-
  Regions in which two operations may come in either order (a call that makes memory, and a read), then stages.
-/
import Derived.Test.YtfjbgcaogffiaaaDRegB
namespace Go.Proofs.Ytfjbgcaogffiaaa
open Go.RowKit
section
variable {P : Program} {Q : Exit → Act → World → Prop}
def planP (ops : Array Oper) (fs : List Nat) (i j : Nat) (st : List Stg) : Bool :=
  Region.noSelect ops && decide (fs.length + (1 + 1 + stN st) = ops.size) && hinvB .any ops (fun _ => false) (Array.replicate ops.size false) && takes3B .any ops (fun _ => false) fs (Array.replicate ops.size false) &&
  (let L := markAll fs (Array.replicate ops.size false)
  decide (Region.ready .any ops L = [i, j]) && fs.all (fun k => decide (k < ops.size)) && decide (i < ops.size) && decide (j < ops.size) && seqB .any ops [j] (L.setIfInBounds i true) && seqB .any ops [i] (L.setIfInBounds j true) &&
  decide (markAll [i] (L.setIfInBounds j true) = markAll [j] (L.setIfInBounds i true)) && stB ops st (markAll [j] (L.setIfInBounds i true)))
theorem region_pair (fs : List Nat) (i j : Nat) (st : List Stg) {id : Nat} {l : List Oper} {a : Act} {w : World} (hm : P.follows .mixedOrders = true) (hB : planP l.toArray fs i j st = true)
    (hQ : ∀ c a (d : Option Tmp) v w, Q (.panic c) (a.put d v) w → Q (.panic c) a w)
    (h : wpQ0 P l.toArray (fun a1 => ∀ W, Ext2 w W → wpTl P l.toArray Q (wpSt P l Q st) (picks l [i, j]) a1 W ∧ wpTl P l.toArray Q (wpSt P l Q st) (picks l [j, i]) a1 W) (picks l fs) a) : (Code.region id l.toArray true).wp P Q a w := by
  refine wp_region_any hm ?_
  simp only [planP, Bool.and_eq_true, decide_eq_true_eq] at hB
  obtain ⟨⟨⟨⟨hns, hn⟩, hinv⟩, htk⟩, ⟨⟨⟨⟨⟨⟨⟨hrd, hfs⟩, hi⟩, hj⟩, hs1⟩, hs2⟩, heq⟩, hst⟩⟩ := hB
  have hfs' : ∀ k ∈ fs, k < l.length := fun k hk => by
    have := List.all_eq_true.1 hfs k hk
    simpa using this
  have hi' : i < l.length := by simpa using hi
  have hj' : j < l.length := by simpa using hj
  have hki : l.toArray[i]? = some l[i] := by simp
  have hkj : l.toArray[j]? = some l[j] := by simp
  have hpi : picks l [i, j] = [l[i], l[j]] := by rw [picks, List.drop_eq_getElem_cons hi', picks, List.drop_eq_getElem_cons hj']; rfl
  have hpj : picks l [j, i] = [l[j], l[i]] := by rw [picks, List.drop_eq_getElem_cons hj', picks, List.drop_eq_getElem_cons hi']; rfl
  rw [← hn]
  refine wpAny_floats (tl := fun _ => false) hns hQ fs (picks l fs) _ a (picks_map hfs') (hinv_of (by rw [hn]; exact hinv)) (by rw [hn]; exact htk) (wpQ0_mono _ _ (fun a1 h1 _ => ?_) h)
  obtain ⟨g1, g2⟩ := h1 _ (Ext2.drew w)
  rw [hpi] at g1
  rw [hpj] at g2
  rw [hn]
  rw [show 1 + 1 + stN st = ([j].length + stN st) + 1 by simp; omega]
  refine ⟨fun h1 => (by rw [hrd] at h1; cases h1), fun k hk => ?_⟩
  rw [hrd] at hk
  rcases List.mem_cons.1 hk with rfl | hk
  · exact wpOp_mono (fun a' w' h' => wpAny_tl (fun a2 w2 h2 => wpAny_st hns hQ st _ a2 w2 hst h2) [j] [l[j]] _ a' w' (by simp) rfl hs1 h') (wpOp_then hki g1)
  · obtain rfl : k = j := by simpa using hk
    exact wpOp_mono (fun a' w' h' => wpAny_tl (fun a2 w2 h2 => wpAny_st hns hQ st _ a2 w2 hst h2) [i] [l[i]] _ a' w' (by simp) heq hs2 h') (wpOp_then hkj g2)
end
end Go.Proofs.Ytfjbgcaogffiaaa
