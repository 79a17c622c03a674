/-
  bench.standing: the notes of a list that stand, by two maps.
-/
import Derived.Test.YtapeakbngligaaaGreatDoorBOrS
import Derived.Test.YtapeakbngligaaaGreatDoorBMap
import Derived.Test.YtapeakbngligaaaGreatDoorBPlA
import Derived.Carry
import Derived.Maps.RangeRun
import Derived.Maps.Range
namespace Go.Proofs.YtapeakbngligaaaGreatDoor.D
theorem last_snoc (l : List Note) (x : Note) (b : ByteArray) (n : Int) : lastV (l ++ [x]) b n = stp b n (lastV l b n) x := by unfold lastV; rw [List.foldl_append]; rfl
def stpS (x : Note) (sb : Bool) : Option Note → Option Note × Bool
  | none => (some x, false)
  | some y => if y.rev < x.rev then (some x, false) else if x.rev = y.rev ∧ x ≠ y then (some y, true) else (some y, sb)
theorem stp_self (so : Option Note) (sb : Bool) (x : Note) : stp x.by_ x.number (so, sb) x = stpS x sb so := by
  unfold stp; rw [if_neg (by simp)]; cases so <;> rfl
theorem nodup_len : ∀ {S l : List Note}, S.Nodup → (∀ y ∈ S, y ∈ l) → S.length ≤ l.length
  | [], _, _, _ => by simp
  | y :: S, l, hn, h => by
    have hy := h y (by simp)
    have hn' := List.nodup_cons.1 hn
    have ih := nodup_len (S := S) (l := l.erase y) hn'.2 (fun z hz => (List.mem_erase_of_ne (fun e => hn'.1 (by rw [← e]; exact hz))).2 (h z (by simp [hz])))
    rw [List.length_erase_of_mem hy] at ih
    have := List.length_pos_of_mem hy
    simp; omega
theorem take_snoc {α : Type} {l : List α} {k : Nat} {d : α} (hk : k < l.length) : l.take (k + 1) = l.take k ++ [l.getD k d] := by
  rw [List.take_succ_eq_append_getElem hk]
  simp [List.getD_eq_getElem?_getD, List.getElem?_eq_getElem hk]
end Go.Proofs.YtapeakbngligaaaGreatDoor.D
namespace Go.Proofs.YtapeakbngligaaaGreatDoor
open Go.RowKit D
set_option linter.unusedVariables false
set_option linter.unusedSimpArgs false
attribute [local go_sem high] run_minI run_maxI
attribute [local go_sem] upon2 cls_cell cls_frozen forall_const exists_eq_left'
attribute [local go_sem] FirstUpon run_makeMap atBlk_cell
def noteVal (x : Note) : Value := .agg #[.string x.by_, .int .i64 x.number, .int .i64 x.rev, .int .i64 x.kind, .int .i64 x.from_, .int .i64 x.until_, .int .i64 x.mlo, .int .i64 x.mhi]
def nameOf (k : Value) : ByteArray × Int := match k with
  | .agg a => (match a.toList with | [.string b, .int _ n] => (b, n) | _ => (ByteArray.empty, 0))
  | _ => (ByteArray.empty, 0)
theorem nameOf_key (b : ByteArray) (n : Int) : nameOf (.agg #[.string b, .int .i64 n]) = (b, n) := rfl
def lastM (l : List Note) (k : Value) : Option Value := (lastV l (nameOf k).1 (nameOf k).2).1.map noteVal
def splitM (l : List Note) (k : Value) : Option Value := (lastV l (nameOf k).1 (nameOf k).2).1.map fun _ => .bool (lastV l (nameOf k).1 (nameOf k).2).2
theorem stp_other {b : ByteArray} {n : Int} {st : Option Note × Bool} {x : Note} (h : Value.agg #[.string b, .int .i64 n] ≠ .agg #[.string x.by_, .int .i64 x.number]) : stp b n st x = st := by
  unfold stp
  refine if_pos ?_
  by_cases h1 : x.by_ = b
  · exact .inr fun h2 => h (by rw [h1, h2])
  · exact .inl h1
/-- The map of the last notes behind one note more. -/
theorem lastM_set {l : List Note} {x : Note} (h : (lastV (l ++ [x]) x.by_ x.number).1 = some x) : ∀ k, K2 k → lastM (l ++ [x]) k = updM (lastM l) (.agg #[.string x.by_, .int .i64 x.number]) (noteVal x) k := by
  rintro k ⟨a, b, rfl⟩
  by_cases hk : Value.agg #[.string a, .int .i64 b] = .agg #[.string x.by_, .int .i64 x.number]
  · rw [hk, updM_same]; unfold lastM; rw [nameOf_key]; simp only; rw [h]; rfl
  · rw [updM_other hk]; unfold lastM; rw [nameOf_key]; simp only; rw [last_snoc, stp_other hk]
theorem lastM_keep {l : List Note} {x : Note} (h : (lastV (l ++ [x]) x.by_ x.number).1 = (lastV l x.by_ x.number).1) : ∀ k, K2 k → lastM (l ++ [x]) k = lastM l k := by
  rintro k ⟨a, b, rfl⟩
  by_cases hk : Value.agg #[.string a, .int .i64 b] = .agg #[.string x.by_, .int .i64 x.number]
  · rw [hk]; unfold lastM; rw [nameOf_key]; simp only; rw [h]
  · unfold lastM; rw [nameOf_key]; simp only; rw [last_snoc, stp_other hk]
theorem splitM_set {l : List Note} {x : Note} {v : Bool} (h1 : (lastV (l ++ [x]) x.by_ x.number).1.isSome = true) (h : (lastV (l ++ [x]) x.by_ x.number).2 = v) : ∀ k, K2 k → splitM (l ++ [x]) k = updM (splitM l) (.agg #[.string x.by_, .int .i64 x.number]) (.bool v) k := by
  rintro k ⟨a, b, rfl⟩
  by_cases hk : Value.agg #[.string a, .int .i64 b] = .agg #[.string x.by_, .int .i64 x.number]
  · rw [hk, updM_same]; unfold splitM; rw [nameOf_key]; simp only; rw [h]
    cases hq : (lastV (l ++ [x]) x.by_ x.number).1 with
    | none => rw [hq] at h1; cases h1
    | some y => rfl
  · rw [updM_other hk]; unfold splitM; rw [nameOf_key]; simp only; rw [last_snoc, stp_other hk]
theorem splitM_keep {l : List Note} {x : Note} (h : lastV (l ++ [x]) x.by_ x.number = lastV l x.by_ x.number) : ∀ k, K2 k → splitM (l ++ [x]) k = splitM l k := by
  rintro k ⟨a, b, rfl⟩
  by_cases hk : Value.agg #[.string a, .int .i64 b] = .agg #[.string x.by_, .int .i64 x.number]
  · rw [hk]; unfold splitM; rw [nameOf_key]; simp only; rw [h]
  · unfold splitM; rw [nameOf_key]; simp only; rw [last_snoc, stp_other hk]
theorem run_neq_note (w : World) (a b : Note) : (binOp .neq 58 (.agg #[.string a.by_, .int .i64 a.number, .int .i64 a.rev, .int .i64 a.kind, .int .i64 a.from_, .int .i64 a.until_, .int .i64 a.mlo, .int .i64 a.mhi]) (.agg #[.string b.by_, .int .i64 b.number, .int .i64 b.rev, .int .i64 b.kind, .int .i64 b.from_, .int .i64 b.until_, .int .i64 b.mlo, .int .i64 b.mhi])).run Tryz.prog w = .ok (.bool (decide (a ≠ b))) w := by
  by_cases e : a = b
  · subst e; go_simp
  · have hno : ¬ (a.by_ = b.by_ ∧ a.number = b.number ∧ a.rev = b.rev ∧ a.kind = b.kind ∧ a.from_ = b.from_ ∧ a.until_ = b.until_ ∧ a.mlo = b.mlo ∧ a.mhi = b.mhi) := fun ⟨h0, h1, h2, h3, h4, h5, h6, h7⟩ => e (by cases a; cases b; simp only at *; subst h0 h1 h2 h3 h4 h5 h6 h7; rfl)
    have HNO := Lib.hid hno
    rw [decide_eq_true e]
    clear e hno
    go_simp
    exact fun h0 h1 h2 h3 h4 h5 h6 h7 => HNO.out ⟨str_same.1 (beq_iff_eq.2 h0), h1, h2, h3, h4, h5, h6, h7⟩
theorem ent_note {l : List Note} {es : Array MapEntry} (h2 : ∀ x ∈ es.toList, K2 x.key) (h4 : ∀ k v, K2 k → (lastM l k = some v ↔ ∃ x ∈ es.toList, x.key = k ∧ x.val = v)) {e : MapEntry} (he : e ∈ es.toList) : ∃ y : Note, e.key = .agg #[.string y.by_, .int .i64 y.number] ∧ e.val = noteVal y ∧ (lastV l y.by_ y.number).1 = some y := by
  obtain ⟨a, b, hk⟩ := h2 e he
  have h := (h4 e.key e.val ⟨a, b, hk⟩).2 ⟨e, he, rfl, rfl⟩
  rw [hk] at h
  unfold lastM at h
  rw [nameOf_key] at h
  obtain ⟨y, hy, hv⟩ := Option.map_eq_some_iff.1 h
  obtain ⟨⟨-, h5, h6⟩, -⟩ := (last_inv l a b).some_ y hy
  exact ⟨y, by rw [hk, h5, h6], hv.symm, by rw [h5, h6]; exact hy⟩
theorem setBlock_grown {w w1 : World} {r : Nat} {o o' : Obj} (h : w1 = w ∨ w1 = w.drew) (hr : w.heap[r]? = some o') : w.grownBy (ChangeMaps.setBlock w1 r o) (some r) ∧ (ChangeMaps.setBlock w1 r o).heap[r]? = some o ∧ (ChangeMaps.setBlock w1 r o).heap.size = w.heap.size := by
  have hlt := (Array.getElem?_eq_some_iff.1 hr).1
  have hs : ∀ W : World, (W.heap = w.heap) → (ChangeMaps.setBlock W r o).heap[r]? = some o ∧ (ChangeMaps.setBlock W r o).heap.size = w.heap.size ∧ ∀ i, i ≠ r → (ChangeMaps.setBlock W r o).heap[i]? = w.heap[i]? := fun W hW => by
    unfold ChangeMaps.setBlock
    refine ⟨?_, ?_, fun i hi => ?_⟩
    · simp [hW, hlt]
    · simp [hW]
    · simp [hW, Array.getElem?_setIfInBounds, Ne.symm hi]
  rcases h with rfl | rfl
  · obtain ⟨a, b, c⟩ := hs w1 rfl
    exact ⟨⟨rfl, rfl, rfl, Nat.le_of_eq b.symm, fun i _ hi => c i (fun e => hi (by rw [e]))⟩, a, b⟩
  · obtain ⟨a, b, c⟩ := hs w.drew rfl
    exact ⟨⟨rfl, rfl, rfl, Nat.le_of_eq b.symm, fun i _ hi => c i (fun e => hi (by rw [e]))⟩, a, b⟩
theorem rl_eq {w : World} {b r s c0 : Nat} {seen : Array Nat} {es : Array MapEntry} {clock : Nat} {mb : Option Nat} (hb : w.heap[b]? = some (.map es clock)) (hr : w.heap[r]? = some (.mapIter mb s seen c0)) : w.rangeLeft b r = (leftOf es seen).size := by unfold World.rangeLeft; simp only [hb, hr]
set_option maxRecDepth 100000 in
set_option maxHeartbeats 8000000 in
theorem standing_any {l : List Note} {s : Sl} {w : World} (hs : NotesS w s l) (hn : l.length ≤ 1000000) (hin : ∀ x ∈ l, NoteIn x) : Calls Tryz.prog 34 #[.slice s.a l.length s.cap] w fun e w' => (∃ s' : Sl, e = .returned (.slice s'.a (standV l).length s'.cap) ∧ NotesS w' s' (standV l)) ∧ Below w.heap.size w w' := by
  have HIN := Lib.hid hin; clear hin
  have hc := hs.le; have hm := hs.max
  obtain ⟨sa, sc⟩ := s
  dsimp only at hc hm
  have HS := Lib.hid hs; clear hs
  obtain ⟨m, hm'⟩ : ∃ m, m = l.length := ⟨_, rfl⟩
  rw [← hm'] at hc hn ⊢
  have HM := Lib.hid hm'; clear hm'
  go_enter Tryz.func34, Tryz.ntmps34
  go_upto_region 3 with (fail)
  refine wp_name ?_
  intro w3 hw3
  obtain ⟨b1, hb1⟩ : ∃ n, n = w.heap.size := ⟨_, rfl⟩
  obtain ⟨b2, hb2⟩ : ∃ n, n = b1 + 1 := ⟨_, rfl⟩
  have x1 : w3.heap[b1]? = some (.map #[] 0) := by rw [hw3, hb1]; exact blk_alloc (blk_new _ _) _
  have x2 : w3.heap[b2]? = some (.map #[] 0) := by rw [hw3, hb2, hb1]; exact blk_new' _ _ (by simp)
  have hE3 : Ext2 w w3 := by rw [hw3]; exact ext_trans (below_alloc' _ _) (below_alloc' _ _)
  have hs3 : w3.heap.size = b2 + 1 := by rw [hw3, hb2, hb1]; simp
  have lb1 : w.heap.size ≤ b1 := by omega
  have lb12 : b1 < b2 := by omega
  rw [← hb1, ← hb2]
  have HM1 := Lib.hid (MapV.made K2 x1); have HM2 := Lib.hid (MapV.made K2 x2); have HE3 := Lib.hid hE3
  clear hw3 hb1 hb2 x1 x2 hE3
  go_wp2_with (fail)
  go_loopw [17] (fun i wr => ∃ k : Nat, i = .int .i64 k ∧ k ≤ m ∧ Ext2 w wr ∧ b2 < wr.heap.size ∧ MapV K2 wr b1 (lastM (l.take k)) ∧ MapV K2 wr b2 (splitM (l.take k))) (fun i _ => m - (intOf i).toNat)
  case atStart => exact ⟨0, rfl, by omega, HE3.out, by omega, HM1.out, HM2.out⟩
  case round =>
    clear HE3 HM1 HM2 hs3
    obtain ⟨k, rfl, hk, hE, hsz, hm1, hm2⟩ := hrel
    have HEK := Lib.hid hE; have HM1 := Lib.hid hm1; have HM2 := Lib.hid hm2
    clear hm1 hm2
    by_cases hlt : k < m
    · go_light
      have hkl : k < l.length := by rw [← HM.out]; exact hlt
      obtain ⟨b, off, hsa, c0, c1, c2, c3, c4, c5, c6, c7⟩ := nt_cells (HS.out.below hE) (i := k) hkl
      dsimp only at hsa
      subst hsa
      have htk : l.take (k + 1) = l.take k ++ [ntD l k] := take_snoc hkl
      obtain ⟨x, hx⟩ : ∃ x, x = ntD l k := ⟨_, rfl⟩
      obtain ⟨L, hL⟩ : ∃ L, L = l.take k := ⟨_, rfl⟩
      rw [← hx] at c0 c1 c2 c3 c4 c5 c6 c7 htk
      rw [← hL] at HM1 HM2 htk
      have HTK := Lib.hid htk
      have h0 : (0 : Int) ≤ (k : Int) := by omega
      have h1 : (k : Int) < (m : Int) := by omega
      have w2' : IntKind.i64.wrap ((k : Int) + 1) = (k : Int) + 1 := IntWalk.i64_in _ (by omega)
      clear htk hx hkl hE hL
      go_upto_region 6 with (fail)
      clear c0 c1 c2 c3 c4 c5 c6 c7
      refine wp_name ?_
      intro w5 hw5
      obtain ⟨n6, hn6⟩ : ∃ n, n = wr.heap.size := ⟨_, rfl⟩
      have x6 : w5.heap[n6]? = some (Obj.cells #[.string x.by_, .int .i64 x.number, .int .i64 x.rev, .int .i64 x.kind, .int .i64 x.from_, .int .i64 x.until_, .int .i64 x.mlo, .int .i64 x.mhi] 58) := by rw [hw5, hn6]; exact blk_new _ _
      have hE5 : Ext2 wr w5 := by rw [hw5]; exact below_alloc' _ _
      have HE5 := Lib.hid hE5
      have lb6 : b2 < n6 := by omega
      have HS5 : Hid (w5.heap.size = n6 + 1) := Lib.hid (by rw [hw5, hn6]; simp)
      rw [← hn6]
      clear hw5 hn6 hE5
      have q6c := cell_blk x6
      have q6f := frz_blk x6
      go_upto_region 7 with (fail)
      refine wp_name ?_
      intro w6 hw6
      obtain ⟨n7, hn7⟩ : ∃ n, n = w5.heap.size := ⟨_, rfl⟩
      have x7 : w6.heap[n7]? = some (.cells #[.string x.by_, .int .i64 x.number] 134 (0, 0)) := by rw [hw6, hn7]; exact blk_new _ _
      have hE6' : Ext2 w5 w6 := by rw [hw6]; exact below_alloc' _ _
      have x6 := Ext2.blk hE6' x6
      have HS6 : Hid (w6.heap.size = n7 + 1) := Lib.hid (by rw [hw6, hn7]; simp)
      have lb7 : n6 < n7 := by have := HS5.out; omega
      have hE6 := ext_trans HE5.out hE6'
      have HM1' := Lib.hid (HM1.out.kept (hE6.block b1 HM1.out.lt)); have HM2' := Lib.hid (HM2.out.kept (hE6.block b2 HM2.out.lt))
      have HE6 := Lib.hid (ext_trans HEK.out hE6)
      rw [← hn7]
      clear q6c q6f hw6 hn7 hE6' hE6 HS5 HE5 HM1 HM2 HEK
      have q6c := cell_blk x6
      have q6f := frz_blk x6
      have q7c := cell_blk x7
      have q7f := frz_blk x7
      have hlk := HM1'.out.lookup keyT_note Tryz.underlying131 (z := .agg #[.string ByteArray.empty, .int .i64 0, .int .i64 0, .int .i64 0, .int .i64 0, .int .i64 0, .int .i64 0, .int .i64 0]) (by kernel_rfl) (k2_mk x.by_ x.number) true
      obtain ⟨⟨so, sb⟩, hst⟩ : ∃ st, st = lastV L x.by_ x.number := ⟨_, rfl⟩
      have hlm : lastM L (.agg #[.string x.by_, .int .i64 x.number]) = so.map noteVal := congrArg (fun p : Option Note × Bool => p.1.map noteVal) hst.symm
      rw [hlm] at hlk
      have hstp := last_snoc L x x.by_ x.number
      rw [← hst] at hstp
      rw [stp_self] at hstp
      have HST := Lib.hid hst; have HSTP := Lib.hid hstp
      clear hst hlm hstp
      cases so with
      | none =>
        dsimp only [Option.map_none, Option.getD_none, Option.isSome_none] at hlk
        simp only [if_true] at hlk
        have hsn : lastV (L ++ [x]) x.by_ x.number = (some x, false) := HSTP.out
        have HSN := Lib.hid hsn
        clear hsn HSTP
        go_upto_region 8 with (fail)
        refine wp_name ?_
        intro w7 hw7
        have hE7 : Ext2 w6 w7 := by rw [hw7]; exact below_alloc' _ _
        have x6 := Ext2.blk hE7 x6; have x7 := Ext2.blk hE7 x7
        have HM17 := Lib.hid (HM1'.out.kept (hE7.block b1 HM1'.out.lt)); have HM27 := Lib.hid (HM2'.out.kept (hE7.block b2 HM2'.out.lt))
        have HE7 := Lib.hid (ext_trans HE6.out hE7)
        have HS7 : Hid (b2 < w7.heap.size) := Lib.hid (by have := HS6.out; have := hE7.size; omega)
        clear q6c q6f q7c q7f hw7 hE7 hlk HM1' HM2' HE6 HS6
        have q6c := cell_blk x6
        have q6f := frz_blk x6
        have q7c := cell_blk x7
        have q7f := frz_blk x7
        go_upto_region 9 with (fail)
        haveI hcls : Nonempty (Cls (AtBlk n7 #[.string x.by_, .int .i64 x.number] 134)) := ⟨⟨w7, x7⟩⟩
        refine region_evH (AtBlk n7 #[.string x.by_, .int .i64 x.number] 134) [2, 3] [0, 1, 4] [] [5, 6] (AtBlk.ext x7) (by kernel_rfl) (by kernel_rfl) (by intro c a d v w h; cases d <;> exact h) ?_
        simp only [picks, List.drop_succ_cons, List.drop_zero]
        repeat (refine wpQS_step (fun K hK => ?_); go_simp; (refine hK _ ?_; clear hK K))
        refine wpQS_nil ?_
        repeat ((with_reducible refine wpQ2_step (fun K hK => ?_)); go_simp; first | ((with_reducible refine hK _ ?_); clear hK K) | (apply Exists.intro; refine ⟨fun x => ?_, hK _ ?_⟩; (fail); clear hK K))
        refine wpQ2_nil ?_
        refine EventsH.none_ fun w8 hE8 => ?_
        simp only [picks, List.drop_succ_cons, List.drop_zero]
        have x7 := Ext2.blk hE8 x7
        have HM18 := Lib.hid (HM17.out.kept (hE8.block b1 HM17.out.lt)); have HM28 := Lib.hid (HM27.out.kept (hE8.block b2 HM27.out.lt))
        have HE8 := Lib.hid (ext_trans HE7.out hE8)
        have HS8 : Hid (b2 < w8.heap.size) := Lib.hid (by have := HS7.out; have := hE8.size; omega)
        clear q6c q6f q7c q7f hE8 HM17 HM27 HE7 HS7
        refine wpListH_cons ?_
        go_wp2_with (at_mapUpdate; refine wpList_store rfl _ _ _ 131 rfl 134 58 keyT_note Tryz.underlying131 b1 rfl HM18.out (.agg #[.string x.by_, .int .i64 x.number]) (noteVal x) rfl rfl (k2_mk _ _) ?_; intro o1 hm1)
        have x7 : ({ w8 with heap := w8.heap.setIfInBounds b1 o1 } : World).heap[n7]? = some (.cells #[.string x.by_, .int .i64 x.number] 134 (0, 0)) := (setObj_other w8 o1 (by omega)).trans x7
        have hm2 := HM28.out.kept (setObj_other w8 o1 (show b2 ≠ b1 by omega))
        refine ⟨x7, wpListH_cons ?_⟩
        have hE9 : Ext2 w { w8 with heap := w8.heap.setIfInBounds b1 o1 } := below_setObj HE8.out lb1 o1
        have hs9 : b2 < ({ w8 with heap := w8.heap.setIfInBounds b1 o1 } : World).heap.size := by rw [setObj_size]; exact HS8.out
        generalize ({ w8 with heap := w8.heap.setIfInBounds b1 o1 } : World) = w9 at *
        have HM19 := Lib.hid hm1; have HM29 := Lib.hid hm2
        go_wp2_with (at_mapUpdate; refine wpList_store rfl _ _ _ 132 rfl 134 4 keyT_note Tryz.underlying132 b2 rfl HM29.out (.agg #[.string x.by_, .int .i64 x.number]) (.bool false) rfl rfl (k2_mk _ _) ?_; intro o2 hm2')
        have x7' : ({ w9 with heap := w9.heap.setIfInBounds b2 o2 } : World).heap[n7]? = some (.cells #[.string x.by_, .int .i64 x.number] 134 (0, 0)) := (setObj_other w9 o2 (by omega)).trans x7
        refine ⟨x7', wpListH_nil ?_⟩
        have hm1' := HM19.out.kept (setObj_other w9 o2 (show b1 ≠ b2 by omega))
        have hE10 : Ext2 w { w9 with heap := w9.heap.setIfInBounds b2 o2 } := below_setObj hE9 (by omega) o2
        have hs10 : b2 < ({ w9 with heap := w9.heap.setIfInBounds b2 o2 } : World).heap.size := by rw [setObj_size]; exact hs9
        generalize ({ w9 with heap := w9.heap.setIfInBounds b2 o2 } : World) = w10 at *
        have HMA := Lib.hid (hm1'.congr (g := lastM (L ++ [x])) (lastM_set (by rw [HSN.out])))
        have HMB := Lib.hid (hm2'.congr (g := splitM (L ++ [x])) (splitM_set (by rw [HSN.out]; rfl) (by rw [HSN.out])))
        clear hm1 hm2 hm2' hm1' x7 x7' HM18 HM28 HM19 HM29
        go_wp2_with (fail)
        go_roundw
        case rel => exact ⟨k + 1, by go_num, by omega, hE10, hs10, by rw [HTK.out]; exact HMA.out, by rw [HTK.out]; exact HMB.out⟩
        case measure => simp [intOf]; omega
      | some y =>
        dsimp only [Option.map_some, Option.getD_some, Option.isSome_some, noteVal] at hlk
        simp only [if_true] at hlk
        go_upto_region 8 with (fail)
        refine wp_name ?_
        intro w7 hw7
        obtain ⟨n8, hn8⟩ : ∃ n, n = w6.heap.size := ⟨_, rfl⟩
        have x8 : w7.heap[n8]? = some (Obj.cells #[.string y.by_, .int .i64 y.number, .int .i64 y.rev, .int .i64 y.kind, .int .i64 y.from_, .int .i64 y.until_, .int .i64 y.mlo, .int .i64 y.mhi] 58) := by rw [hw7, hn8]; exact blk_new _ _
        have hE7 : Ext2 w6 w7 := by rw [hw7]; exact below_alloc' _ _
        have x6 := Ext2.blk hE7 x6; have x7 := Ext2.blk hE7 x7
        have HM17 := Lib.hid (HM1'.out.kept (hE7.block b1 HM1'.out.lt)); have HM27 := Lib.hid (HM2'.out.kept (hE7.block b2 HM2'.out.lt))
        have HE7 := Lib.hid (ext_trans HE6.out hE7)
        have HS7 : Hid (b2 < w7.heap.size) := Lib.hid (by have := HS6.out; have := hE7.size; omega)
        have lb8 : b2 < n8 := by have := HS6.out; omega
        rw [← hn8]
        clear q6c q6f q7c q7f hw7 hE7 hlk HM1' HM2' HE6 HS6 hn8
        have q6c := cell_blk x6
        have q6f := frz_blk x6
        have q7c := cell_blk x7
        have q7f := frz_blk x7
        have q8c := cell_blk x8
        have q8f := frz_blk x8
        have HSQ := HSTP.out
        rw [stpS] at HSQ
        by_cases hr : y.rev < x.rev
        · rw [if_pos hr] at HSQ
          have HSN := Lib.hid HSQ
          clear HSQ HSTP
          go_upto_region 9 with (fail)
          haveI hcls : Nonempty (Cls (AtBlk n7 #[.string x.by_, .int .i64 x.number] 134)) := ⟨⟨w7, x7⟩⟩
          refine region_evH (AtBlk n7 #[.string x.by_, .int .i64 x.number] 134) [2, 3] [0, 1, 4] [] [5, 6] (AtBlk.ext x7) (by kernel_rfl) (by kernel_rfl) (by intro c a d v w h; cases d <;> exact h) ?_
          simp only [picks, List.drop_succ_cons, List.drop_zero]
          repeat (refine wpQS_step (fun K hK => ?_); go_simp; (refine hK _ ?_; clear hK K))
          refine wpQS_nil ?_
          repeat ((with_reducible refine wpQ2_step (fun K hK => ?_)); go_simp; first | ((with_reducible refine hK _ ?_); clear hK K) | (apply Exists.intro; refine ⟨fun x => ?_, hK _ ?_⟩; (fail); clear hK K))
          refine wpQ2_nil ?_
          refine EventsH.none_ fun w8 hE8 => ?_
          simp only [picks, List.drop_succ_cons, List.drop_zero]
          have x7 := Ext2.blk hE8 x7
          have HM18 := Lib.hid (HM17.out.kept (hE8.block b1 HM17.out.lt)); have HM28 := Lib.hid (HM27.out.kept (hE8.block b2 HM27.out.lt))
          have HE8 := Lib.hid (ext_trans HE7.out hE8)
          have HS8 : Hid (b2 < w8.heap.size) := Lib.hid (by have := HS7.out; have := hE8.size; omega)
          clear q6c q6f q7c q7f q8c q8f x8 hE8 HM17 HM27 HE7 HS7
          refine wpListH_cons ?_
          go_wp2_with (at_mapUpdate; refine wpList_store rfl _ _ _ 131 rfl 134 58 keyT_note Tryz.underlying131 b1 rfl HM18.out (.agg #[.string x.by_, .int .i64 x.number]) (noteVal x) rfl rfl (k2_mk _ _) ?_; intro o1 hm1)
          have x7 : ({ w8 with heap := w8.heap.setIfInBounds b1 o1 } : World).heap[n7]? = some (.cells #[.string x.by_, .int .i64 x.number] 134 (0, 0)) := (setObj_other w8 o1 (by omega)).trans x7
          have hm2 := HM28.out.kept (setObj_other w8 o1 (show b2 ≠ b1 by omega))
          refine ⟨x7, wpListH_cons ?_⟩
          have hE9 : Ext2 w { w8 with heap := w8.heap.setIfInBounds b1 o1 } := below_setObj HE8.out lb1 o1
          have hs9 : b2 < ({ w8 with heap := w8.heap.setIfInBounds b1 o1 } : World).heap.size := by rw [setObj_size]; exact HS8.out
          generalize ({ w8 with heap := w8.heap.setIfInBounds b1 o1 } : World) = w9 at *
          have HM19 := Lib.hid hm1; have HM29 := Lib.hid hm2
          go_wp2_with (at_mapUpdate; refine wpList_store rfl _ _ _ 132 rfl 134 4 keyT_note Tryz.underlying132 b2 rfl HM29.out (.agg #[.string x.by_, .int .i64 x.number]) (.bool false) rfl rfl (k2_mk _ _) ?_; intro o2 hm2')
          have x7' : ({ w9 with heap := w9.heap.setIfInBounds b2 o2 } : World).heap[n7]? = some (.cells #[.string x.by_, .int .i64 x.number] 134 (0, 0)) := (setObj_other w9 o2 (by omega)).trans x7
          refine ⟨x7', wpListH_nil ?_⟩
          have hm1' := HM19.out.kept (setObj_other w9 o2 (show b1 ≠ b2 by omega))
          have hE10 : Ext2 w { w9 with heap := w9.heap.setIfInBounds b2 o2 } := below_setObj hE9 (by omega) o2
          have hs10 : b2 < ({ w9 with heap := w9.heap.setIfInBounds b2 o2 } : World).heap.size := by rw [setObj_size]; exact hs9
          generalize ({ w9 with heap := w9.heap.setIfInBounds b2 o2 } : World) = w10 at *
          have HMA := Lib.hid (hm1'.congr (g := lastM (L ++ [x])) (lastM_set (by rw [HSN.out])))
          have HMB := Lib.hid (hm2'.congr (g := splitM (L ++ [x])) (splitM_set (by rw [HSN.out]; rfl) (by rw [HSN.out])))
          clear hm1 hm2 hm2' hm1' x7 x7' HM18 HM28 HM19 HM29
          go_wp2_with (fail)
          go_roundw
          case rel => exact ⟨k + 1, by go_num, by omega, hE10, hs10, by rw [HTK.out]; exact HMA.out, by rw [HTK.out]; exact HMB.out⟩
          case measure => simp [intOf]; omega
        · rw [if_neg hr] at HSQ
          by_cases he : x.rev = y.rev
          · have hbr : (x.rev == y.rev) = true := by simp [he]
            by_cases hxy : x ≠ y
            · rw [if_pos ⟨he, hxy⟩] at HSQ
              have HSN := Lib.hid HSQ
              have HNE : ∀ W : World, (binOp .neq 58 (.agg #[.string x.by_, .int .i64 x.number, .int .i64 x.rev, .int .i64 x.kind, .int .i64 x.from_, .int .i64 x.until_, .int .i64 x.mlo, .int .i64 x.mhi]) (.agg #[.string y.by_, .int .i64 y.number, .int .i64 y.rev, .int .i64 y.kind, .int .i64 y.from_, .int .i64 y.until_, .int .i64 y.mlo, .int .i64 y.mhi])).run Tryz.prog W = .ok (.bool true) W := fun W => by rw [run_neq_note, decide_eq_true hxy]
              clear HSQ HSTP he hxy
              have HM29 := HM27
              go_wp2_with (at_mapUpdate; refine wpList_store rfl _ _ _ 132 rfl 134 4 keyT_note Tryz.underlying132 b2 rfl HM29.out (.agg #[.string x.by_, .int .i64 x.number]) (.bool true) rfl rfl (k2_mk _ _) ?_; intro o2 hm2')
              have hm1' := HM17.out.kept (setObj_other w7 o2 (show b1 ≠ b2 by omega))
              have hE10 : Ext2 w { w7 with heap := w7.heap.setIfInBounds b2 o2 } := below_setObj HE7.out (by omega) o2
              have hs10 : b2 < ({ w7 with heap := w7.heap.setIfInBounds b2 o2 } : World).heap.size := by rw [setObj_size]; exact HS7.out
              have HMA := Lib.hid (hm1'.congr (g := lastM (L ++ [x])) (lastM_keep (by rw [HSN.out, ← HST.out])))
              have HMB := Lib.hid (hm2'.congr (g := splitM (L ++ [x])) (splitM_set (by rw [HSN.out]; rfl) (by rw [HSN.out])))
              clear hm2' hm1' HM17 HM29 HM27 q6c q6f q7c q7f q8c q8f x6 x7 x8
              go_roundw
              case rel => exact ⟨k + 1, by go_num, by omega, hE10, hs10, by rw [HTK.out]; exact HMA.out, by rw [HTK.out]; exact HMB.out⟩
              case measure => simp [intOf]; omega
            · rw [if_neg (fun h => hxy h.2)] at HSQ
              have HSN := Lib.hid HSQ
              have HNE : ∀ W : World, (binOp .neq 58 (.agg #[.string x.by_, .int .i64 x.number, .int .i64 x.rev, .int .i64 x.kind, .int .i64 x.from_, .int .i64 x.until_, .int .i64 x.mlo, .int .i64 x.mhi]) (.agg #[.string y.by_, .int .i64 y.number, .int .i64 y.rev, .int .i64 y.kind, .int .i64 y.from_, .int .i64 y.until_, .int .i64 y.mlo, .int .i64 y.mhi])).run Tryz.prog W = .ok (.bool false) W := fun W => by rw [run_neq_note, decide_eq_false hxy]
              have HMA := Lib.hid (HM17.out.congr (g := lastM (L ++ [x])) (lastM_keep (by rw [HSN.out, ← HST.out])))
              have HMB := Lib.hid (HM27.out.congr (g := splitM (L ++ [x])) (splitM_keep (by rw [HSN.out, ← HST.out])))
              clear HSQ HSTP he hxy
              go_wp2_with (fail)
              go_roundw
              case rel => exact ⟨k + 1, by go_num, by omega, HE7.out, HS7.out, by rw [HTK.out]; exact HMA.out, by rw [HTK.out]; exact HMB.out⟩
              case measure => simp [intOf]; omega
          · have hbr : (x.rev == y.rev) = false := by simp [he]
            rw [if_neg (fun h => he h.1)] at HSQ
            have HSN := Lib.hid HSQ
            have HMA := Lib.hid (HM17.out.congr (g := lastM (L ++ [x])) (lastM_keep (by rw [HSN.out, ← HST.out])))
            have HMB := Lib.hid (HM27.out.congr (g := splitM (L ++ [x])) (splitM_keep (by rw [HSN.out, ← HST.out])))
            clear HSQ HSTP he
            go_wp2_with (fail)
            go_roundw
            case rel => exact ⟨k + 1, by go_num, by omega, HE7.out, HS7.out, by rw [HTK.out]; exact HMA.out, by rw [HTK.out]; exact HMB.out⟩
            case measure => simp [intOf]; omega
    · obtain rfl : m = k := by omega
      rw [show l.take m = l from List.take_of_length_le (by rw [HM.out]; exact Nat.le_refl _)] at HM1 HM2
      obtain ⟨es, clock, g1, g2, g3, g4, g5, g6⟩ := HM1.out.at_
      have G2 := Lib.hid g2; have G3 := Lib.hid g3; have G4 := Lib.hid g4; have G5 := Lib.hid g5; have G6 := Lib.hid g6
      have hrg := run_range_map (P := Tryz.prog) wr 131 134 58 b1 es clock Tryz.underlying131 g1
      have HG1 := Lib.hid g1
      clear g1 g2 g3 g4 g5 g6 hE
      go_wp2_with (fail)
      refine wp_name ?_
      intro w5 hw5
      obtain ⟨r, hr⟩ : ∃ n, n = wr.heap.size := ⟨_, rfl⟩
      have xr : w5.heap[r]? = some (.mapIter (some b1) clock #[] clock) := by rw [hw5, hr]; exact blk_new' _ _ rfl
      have hE5 : Ext2 wr w5 := by rw [hw5]; exact below_alloc' _ _
      have hs5 : w5.heap.size = r + 1 := by rw [hw5, hr]; simp
      have l2r : b2 < r := by omega
      have HB5 := Lib.hid (hE5.block b1 HM1.out.lt |>.trans HG1.out)
      have HM25 := Lib.hid (HM2.out.kept (hE5.block b2 HM2.out.lt))
      have HE5 := Lib.hid (ext_trans HEK.out hE5); have XR := Lib.hid xr
      rw [← hr]
      clear hw5 hr xr hE5 hrg hsz HM1 HM2 HEK HG1
      go_loopw [10] (fun u wr => ∃ (seen : Array Nat) (c0 : Nat) (S : List Note), OwnR wr (r + 1) 58 8 u S.length (ntC S) ∧ wr.heap[b1]? = some (.map es clock) ∧ wr.heap[r]? = some (.mapIter (some b1) clock seen c0) ∧ clock ≤ c0 ∧ MapV K2 wr b2 (splitM l) ∧ Ext2 w wr ∧ r < wr.heap.size ∧ S.Nodup ∧ ∀ y, y ∈ S ↔ y ∈ standV l ∧ ∃ e ∈ es.toList, e.key = .agg #[.string y.by_, .int .i64 y.number] ∧ seen.contains e.born = true) (fun _ wr => wr.rangeLeft b1 r)
      case atStart => exact ⟨#[], clock, [], own_nil _ _ _ _ _, HB5.out, XR.out, Nat.le_refl _, HM25.out, HE5.out, by omega, List.nodup_nil, fun y => by simp⟩
      case round =>
        clear HB5 HM25 HE5 XR hs5
        obtain ⟨seen, c0, S, hO, hb, hit, hcc, hm2, hE, hrs, hnd, hS⟩ := hrel
        have HO := Lib.hid hO; have HB := Lib.hid hb; have HIT := Lib.hid hit; have HM2 := Lib.hid hm2; have HE := Lib.hid hE; have HND := Lib.hid hnd; have HSS := Lib.hid hS
        have hnx := run_next_at (P := Tryz.prog) wr 0 r b1 clock c0 seen es clock hit hb G5.out hcc
        clear hO hm2 hE hnd hS
        rcases hnx with ⟨hz, hnx⟩ | ⟨e, he, w1, hw1, hnx⟩
        · have hall := all_seen es seen hz
          have hmem : ∀ y, y ∈ S ↔ y ∈ standV l := fun y => by
            rw [HSS.out y]
            constructor
            · exact fun h => h.1
            · intro h
              refine ⟨h, ?_⟩
              have h1 := (last_stands (l := l) (b := y.by_) (n := y.number) (y := y)).2 ⟨h, rfl, rfl⟩
              have h2 : lastM l (.agg #[.string y.by_, .int .i64 y.number]) = some (noteVal y) := by unfold lastM; rw [nameOf_key]; simp only; rw [h1]; rfl
              obtain ⟨x, hx, hxk, -⟩ := (G4.out _ _ (k2_mk _ _)).1 h2
              exact ⟨x, hx, hxk, hall x hx⟩
          have HMEM := Lib.hid hmem
          clear hmem hall hz hit
          have hlen : S.length ≤ l.length := nodup_len HND.out fun z hz => (standV_mem.1 ((HMEM.out z).1 hz)).1
          have HSORT := Lib.hid (sortN_any HO.out (fun y hy => HIN.out y (standV_mem.1 ((HMEM.out y).1 hy)).1) HND.out (by have := HM.out; omega) (by omega))
          clear hlen hb
          go_wp2_with (fail)
          refine HSORT.out.mono ?_
          rintro e w7 ⟨rfl, L', s', hv, hnt, hord, hmm, hbl⟩
          have hL : L' = standV l := inOrd_uniq hord (standV_ord l) fun y => by rw [hmm, HMEM.out y]
          subst hL
          have hB7 : Below w.heap.size w w7 := HE.out.trans (hbl.mono (by have := HE.out.size; omega))
          subst hv
          go_wp2_with (fail)
          go_ret
          exact ⟨⟨s', rfl, hnt⟩, hB7⟩
        · obtain ⟨hem, hes⟩ := mem_left he
          obtain ⟨y, hk, hv, hly⟩ := ent_note G2.out G4.out hem
          obtain ⟨hg, hitW, hsW⟩ := setBlock_grown (o := .mapIter (some b1) clock (seen.push e.born) clock) hw1 hit
          obtain ⟨W', hW'⟩ : ∃ x, x = ChangeMaps.setBlock w1 r (.mapIter (some b1) clock (seen.push e.born) clock) := ⟨_, rfl⟩
          rw [← hW'] at hnx hg hitW hsW
          have hbW : W'.heap[b1]? = some (.map es clock) := (hg.block b1 (by have := HB.out; exact (Array.getElem?_eq_some_iff.1 this).1) (by simp; omega)).trans HB.out
          have hen := run_entry_at (P := Tryz.prog) W' r b1 clock seen es clock e hitW hbW hem G6.out
          have hmW := HM2.out.kept (hg.block b2 HM2.out.lt (by simp; omega))
          have hEW : Ext2 w W' := HE.out.trans ⟨hg.os, hg.tape, hg.output, hg.size, fun i hi => hg.block i (by have := HE.out.size; omega) (by have := HE.out.size; simp; omega)⟩
          have hOW : OwnR W' (r + 1) 58 8 u10 S.length (ntC S) := HO.out.kept hg (by
            rcases HO.out.forms with ⟨rfl, -⟩ | ⟨g, cp, rfl, hgb, -⟩
            · exact .inl rfl
            · exact .inr (by simp [Value.ownBlock]; omega))
          rw [hk, hv] at hnx hen
          unfold noteVal at hnx hen
          have hcnt : (leftOf es (seen.push e.born)).size < wr.rangeLeft b1 r := by
            rw [rl_eq HB.out HIT.out]; exact left_shrinks es seen e he
          have HEM := Lib.hid hem; have HES := Lib.hid hes; have HK := Lib.hid hk; have HOW := Lib.hid hOW; have HMW := Lib.hid hmW; have HEW := Lib.hid hEW; have HBW := Lib.hid hbW; have HITW := Lib.hid hitW; have HCNT := Lib.hid hcnt
          have HSW : Hid (r < W'.heap.size) := Lib.hid (by omega)
          obtain ⟨⟨so, sb⟩, hst⟩ : ∃ st, st = lastV l y.by_ y.number := ⟨_, rfl⟩
          rw [← hst] at hly
          obtain rfl : so = some y := hly
          have HST := Lib.hid hst.symm
          clear hw1 hW' hg hitW hsW hbW hmW hEW hOW hem hes hk hv hst he hcnt hb hit hrs hcc
          go_upto_region 17 with (fail)
          clear hnx hen
          refine wp_name ?_
          intro w6 hw6
          obtain ⟨n11, hn11⟩ : ∃ n, n = W'.heap.size := ⟨_, rfl⟩
          obtain ⟨n12, hn12⟩ : ∃ n, n = n11 + 1 := ⟨_, rfl⟩
          have x11 : w6.heap[n11]? = some (.cells #[.string y.by_, .int .i64 y.number] 134 (0, 0)) := by rw [hw6, hn11]; exact blk_alloc (blk_new _ _) _
          have x12 : w6.heap[n12]? = some (Obj.cells #[.string y.by_, .int .i64 y.number, .int .i64 y.rev, .int .i64 y.kind, .int .i64 y.from_, .int .i64 y.until_, .int .i64 y.mlo, .int .i64 y.mhi] 58) := by rw [hw6, hn12, hn11]; exact blk_new' _ _ (by simp)
          have hE6 : Ext2 W' w6 := by rw [hw6]; exact ext_trans (below_alloc' _ _) (below_alloc' _ _)
          have HS6 : Hid (w6.heap.size = n12 + 1) := Lib.hid (by rw [hw6, hn12, hn11]; simp)
          have lr : r < n11 := by have := HSW.out; omega
          have l112 : n11 < n12 := by omega
          rw [← hn11, ← hn12]
          have HB6 := Lib.hid ((hE6.block b1 (by have := HSW.out; omega)).trans HBW.out)
          have HIT6 := Lib.hid ((hE6.block r HSW.out).trans HITW.out)
          have HM6 := Lib.hid (HMW.out.kept (hE6.block b2 HMW.out.lt))
          have HO6 := Lib.hid (HOW.out.below hE6)
          have HE6 := Lib.hid (ext_trans HEW.out hE6)
          clear hw6 hn11 hn12 hE6 HBW HITW HMW HOW HEW HSW
          have q11c := cell_blk x11
          have q11f := frz_blk x11
          have q12c := cell_blk x12
          have q12f := frz_blk x12
          have hlk := HM6.out.lookup keyT_note Tryz.underlying132 (z := .bool false) (by kernel_rfl) (k2_mk y.by_ y.number) false
          have hsp : splitM l (.agg #[.string y.by_, .int .i64 y.number]) = some (.bool sb) := by unfold splitM; rw [nameOf_key]; simp only; rw [HST.out]; rfl
          rw [hsp] at hlk
          dsimp only [Option.getD_some] at hlk
          simp only [Bool.false_eq_true, if_false] at hlk
          clear hsp
          have hse : seen.contains e.born = true ∨ seen.contains e.born = false := by cases seen.contains e.born <;> simp
          have hcont : ∀ x, (seen.push e.born).contains x = true ↔ seen.contains x = true ∨ x = e.born := fun x => by rw [contains_push]; simp
          have HCO := Lib.hid hcont
          clear hse hcont
          have HKEY : Hid (∀ z : Note, Value.agg #[.string z.by_, .int .i64 z.number] = .agg #[.string y.by_, .int .i64 y.number] → z.by_ = y.by_ ∧ z.number = y.number) := Lib.hid fun z h => by simpa using h
          have HBI : Hid (∀ x ∈ es.toList, x.born = e.born → x = e) := Lib.hid fun x hx h => born_inj G6.out hx HEM.out h
          cases sb with
          | true =>
            go_wp2_with (fail)
            go_roundw
            case rel =>
              refine ⟨seen.push e.born, clock, S, HO6.out, HB6.out, HIT6.out, Nat.le_refl _, HM6.out, HE6.out, by have := HS6.out; omega, HND.out, fun z => ?_⟩
              rw [HSS.out z]
              constructor
              · rintro ⟨p1, x, hx, p2, p3⟩
                exact ⟨p1, x, hx, p2, (HCO.out _).2 (.inl p3)⟩
              · rintro ⟨p1, x, hx, p2, p3⟩
                refine ⟨p1, x, hx, p2, ?_⟩
                rcases (HCO.out _).1 p3 with p4 | p4
                · exact p4
                · obtain rfl := HBI.out x hx p4
                  rw [HK.out] at p2
                  obtain ⟨q1, q2⟩ := HKEY.out z p2.symm
                  have h1 := (last_stands (l := l) (b := y.by_) (n := y.number) (y := z)).2 ⟨p1, q1, q2⟩
                  rw [HST.out] at h1; cases h1
            case measure => rw [rl_eq HB6.out HIT6.out]; exact HCNT.out
          | false =>
            have hys := (last_stands (l := l) (b := y.by_) (n := y.number) (y := y)).1 HST.out
            have HYS := Lib.hid hys.1
            have hlen : S.length ≤ l.length := nodup_len HND.out fun z hz => (standV_mem.1 ((HSS.out z).1 hz).1).1
            have hlen2 : S.length ≤ 1000000 := by have := HM.out; omega
            have hny : y ∉ S := fun h => by
              obtain ⟨-, x, hx, p2, p3⟩ := (HSS.out y).1 h
              obtain ⟨i, hi⟩ := Array.mem_iff_getElem?.1 (Array.mem_toList_iff.1 hx)
              obtain ⟨j, hj⟩ := Array.mem_iff_getElem?.1 (Array.mem_toList_iff.1 HEM.out)
              obtain rfl := G3.out i j x e hi hj (by rw [p2, HK.out])
              rw [hi] at hj
              simp only [Option.some.injEq] at hj
              rw [hj, HES.out] at p3; cases p3
            have HNY := Lib.hid hny
            clear hys hlen hny
            go_wp2_with (at_builtin; refine app_one_at [.string y.by_, .int .i64 y.number, .int .i64 y.rev, .int .i64 y.kind, .int .i64 y.from_, .int .i64 y.until_, .int .i64 y.mlo, .int .i64 y.mhi] elNote rfl _ _ rfl (r + 1) rfl (HO6.out.below (below_alloc' _ _)) w6.heap.size 1 rfl (blk_new _ _) (by simp [Value.oneCell']) (by omega) (by have := HS6.out; simp; omega) ?_; intro v' w9 hO9 hg9 hpl)
            have hno : ∀ k, k ≤ r → some k ≠ u10.ownBlock := fun k hk he => by
              rcases HO6.out.forms with ⟨rfl, -⟩ | ⟨g, cp, rfl, hgb, -⟩
              · cases he
              · simp [Value.ownBlock] at he; omega
            have hkeep : ∀ k, k ≤ r → w9.heap[k]? = w6.heap[k]? := fun k hk => (hg9.block k (by have := HS6.out; simp; omega) (hno k hk)).trans ((below_alloc' w6 _).block k (by have := HS6.out; omega))
            have hE9 : Ext2 w w9 := ext_grown (ext_trans HE6.out (below_alloc' _ _)) hg9 (fun k hk => by
              have := hno; rcases Nat.lt_or_ge r k with h | h
              · omega
              · exact absurd hk.symm (this k h))
            have hb9 := (hkeep b1 (by omega)).trans HB6.out
            have hi9 := (hkeep r (Nat.le_refl _)).trans HIT6.out
            refine ⟨⟨seen.push e.born, clock, S ++ [y], own_nt hO9, hb9, hi9, Nat.le_refl _, HM6.out.kept (hkeep b2 (by omega)), hE9, (Array.getElem?_eq_some_iff.1 hi9).1, ?_, fun z => ?_⟩, by rw [rl_eq hb9 hi9]; exact HCNT.out⟩
            · rw [List.nodup_append]
              exact ⟨HND.out, by simp, fun p hp q hq => by
                obtain rfl : q = y := by simpa using hq
                intro h; exact HNY.out (h ▸ hp)⟩
            · rw [List.mem_append, HSS.out z]
              constructor
              · rintro (⟨p1, x, hx, p2, p3⟩ | p1)
                · exact ⟨p1, x, hx, p2, (HCO.out _).2 (.inl p3)⟩
                · obtain rfl : z = y := by simpa using p1
                  exact ⟨HYS.out, e, HEM.out, HK.out, (HCO.out _).2 (.inr rfl)⟩
              · rintro ⟨p1, x, hx, p2, p3⟩
                rcases (HCO.out _).1 p3 with p4 | p4
                · exact .inl ⟨p1, x, hx, p2, p4⟩
                · obtain rfl := HBI.out x hx p4
                  rw [HK.out] at p2
                  obtain ⟨q1, q2⟩ := HKEY.out z p2.symm
                  have h1 := (last_stands (l := l) (b := y.by_) (n := y.number) (y := z)).2 ⟨p1, q1, q2⟩
                  rw [HST.out] at h1
                  refine .inr ?_
                  simp at h1
                  simp [h1]
end Go.Proofs.YtapeakbngligaaaGreatDoor
