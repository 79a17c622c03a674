/-
  The table of bench in memory; marked, leader.
-/
import Derived.Test.YtapeakbngligaaaGreatDoorBStn
import Derived.Test.YtapeakbngligaaaGreatDoorBFlm
import Derived.Laws.CopyOwn
import Derived.Deep.DeepMust
namespace Go.Proofs.YtapeakbngligaaaGreatDoor.D
/-- The notes that stand of a task: as the table keeps them. -/
structure StOk (T : Task) (N : List Note) : Prop where
  task : TaskOk T
  eq : N = standV T.notes
  note : ∀ x ∈ N, NoteOk x ∧ x.until_ < T.reel.frames
  len : N.length ≤ 60
theorem boolL_get {F : Nat} {p : Nat → Bool} {i : Nat} : ((List.range F).map fun i => Value.bool (p i))[i]? = if i < F then some (Value.bool (p i)) else none := by
  rw [List.getElem?_map]
  by_cases h : i < F
  · rw [if_pos h, List.getElem?_range h]; rfl
  · rw [if_neg h, List.getElem?_eq_none (by simpa using h)]; rfl
end Go.Proofs.YtapeakbngligaaaGreatDoor.D
namespace Go.Proofs.YtapeakbngligaaaGreatDoor
open Go.RowKit D
set_option linter.unusedVariables false
set_option linter.unusedSimpArgs false
attribute [local go_sem high] run_minI run_maxI
attribute [local go_sem] upon2 cls_cell cls_frozen forall_const exists_eq_left'
attribute [local go_sem] FirstUpon atBlk_cell
def boolL (F : Nat) (p : Nat → Bool) : List Value := (List.range F).map fun i => Value.bool (p i)
theorem boolL_len (F : Nat) (p : Nat → Bool) : (boolL F p).length = F := by simp [boolL]
theorem boolL_at {F : Nat} {p : Nat → Bool} {i : Nat} (h : i < F) : (boolL F p)[i]? = some (.bool (p i)) := by unfold boolL; rw [boolL_get, if_pos h]
theorem boolL_set {F : Nat} {p q : Nat → Bool} {k : Nat} {v : Bool} (h : ∀ i, i < F → q i = if i = k then v else p i) : (boolL F p).toArray.setIfInBounds k (.bool v) = (boolL F q).toArray := by
  rw [List.setIfInBounds_toArray]
  congr 1
  apply List.ext_getElem?
  intro i
  rw [List.getElem?_set]
  unfold boolL
  rw [boolL_get, boolL_get]
  by_cases hi : i < F
  · rw [if_pos hi, if_pos hi, h i hi]
    by_cases hk : k = i
    · subst hk; simp [hi]
    · rw [if_neg hk, if_neg (Ne.symm hk)]
  · rw [if_neg hi, if_neg hi]
    by_cases hk : k = i
    · subst hk; simp [hi]
    · rw [if_neg hk]
theorem boolL_splice {F : Nat} {p q : Nat → Bool} {off n : Nat} (hf : off + n ≤ F) (h : ∀ i, i < F → q i = if off ≤ i ∧ i < off + n then true else p i) : splice (boolL F p) off (List.replicate n (.bool true)) = boolL F q := by
  apply List.ext_getElem?
  intro i
  unfold splice
  have e2 : (boolL F q)[i]? = if i < F then some (Value.bool (q i)) else none := by unfold boolL; exact boolL_get
  have e1 : ∀ j, (boolL F p)[j]? = if j < F then some (Value.bool (p j)) else none := fun j => by unfold boolL; exact boolL_get
  rw [e2, List.length_replicate]
  have hl1 : (List.take off (boolL F p)).length = off := by rw [List.length_take, boolL_len]; omega
  by_cases h1 : i < off
  · rw [List.getElem?_append_left (by omega), List.getElem?_take, if_pos h1, e1, if_pos (by omega), if_pos (by omega), h i (by omega), if_neg (by omega)]
  · rw [List.getElem?_append_right (by omega), hl1]
    by_cases h2 : i < off + n
    · rw [List.getElem?_append_left (by rw [List.length_replicate]; omega), List.getElem?_replicate, if_pos (by omega), if_pos (by omega), h i (by omega), if_pos (by omega)]
    · rw [List.getElem?_append_right (by rw [List.length_replicate]; omega), List.length_replicate, List.getElem?_drop, e1]
      rw [show off + n + (i - off - n) = i by omega]
      by_cases h3 : i < F
      · rw [if_pos h3, if_pos h3, h i h3, if_neg (by omega)]
      · rw [if_neg h3, if_neg h3]
theorem made_boolL' (F : Nat) (h : madeCells #[Value.bool false] F = (boolL F fun _ => false).toArray) : madeCells (Value.bool false).cells (F * 1) = (boolL F fun _ => false).toArray := by rw [Nat.mul_one]; exact h
theorem made_boolL (F : Nat) : madeCells #[Value.bool false] F = (boolL F fun _ => false).toArray := by
  apply Array.ext_getElem?
  intro i
  have e2 : (boolL F fun _ => false)[i]? = if i < F then some (Value.bool false) else none := by unfold boolL; exact boolL_get
  have e3 : (boolL F fun _ => false).toArray[i]? = (boolL F fun _ => false)[i]? := List.getElem?_toArray
  rw [e3, e2]
  by_cases h : i < F
  · rw [if_pos h]; exact made_one h
  · rw [if_neg h, Array.getElem?_eq_none (by rw [size_madeCells]; omega)]
/-- The table in memory: its block, and the notes that stand. -/
structure TabN (w : World) (T : Task) (t : TSl) (N : List Note) (ns : Sl) (B : Nat) (pv : Value) : Prop where
  blk : w.heap[B]? = some (Obj.cells #[.string T.reel.name, .int .i64 T.reel.gauge, .int .i64 T.reel.base, .int .i64 T.reel.frames, .int .i64 T.reel.ylo, .int .i64 T.reel.yhi, .int .i64 T.reel.keep, .slice t.r.m.a T.reel.marks.length t.r.m.cap, .slice t.r.s.a T.reel.syms.length t.r.s.cap, .slice t.r.l.a T.reel.lens.length t.r.l.cap, .int .i64 T.whole.lo, .int .i64 T.whole.hi, .slice t.n.a T.notes.length t.n.cap, .slice ns.a N.length ns.cap, pv] 119)
  nt : NotesS w ns N
theorem TabN.below {w w' : World} {T : Task} {t : TSl} {N : List Note} {ns : Sl} {B : Nat} {pv : Value} (h : TabN w T t N ns B pv) (hb : Below w.heap.size w w') : TabN w' T t N ns B pv := ⟨below_blk hb h.blk (blk_lt h.blk), h.nt.below hb⟩
theorem join_key2 {G : Prop} {α β : Type} {C : α → β → World → Prop} {Q : Exit → Act → World → Prop} {A : α → β → Act} (h : (∀ n m u, C n m u → Q .normal (A n m) u) → G) (k : ∀ n m u, C n m u → Q .normal (A n m) u) : G := h k
/-- A note of a kind is about a frame, in the first k notes. -/
theorem about_snoc (l : List Note) (x : Note) (kind f : Int) : about (l ++ [x]) kind f = (about l kind f || (decide (x.kind = kind) && inB f x.from_ x.until_)) := by
  unfold about; rw [List.any_append]; simp
set_option maxRecDepth 100000 in
set_option maxHeartbeats 8000000 in
theorem marked_any {T : Task} {t : TSl} {N : List Note} {ns : Sl} {B : Nat} {pv : Value} {w : World} (h : TabN w T t N ns B pv) (hT : StOk T N) {F : Nat} (hF : T.reel.frames = (F : Int)) (kind : Int) :
    Calls Tryz.prog 47 #[.pointer (some ⟨B, 0, none⟩), .int .i64 kind] w fun e w' => (∃ g cap, e = .returned (.slice (some ⟨g, 0, none⟩) F cap) ∧ F ≤ cap ∧ cap ≤ 9223372036854775807 ∧ w.heap.size ≤ g ∧ w'.heap[g]? = some (.cells (boolL F fun i => about N kind (i : Int)).toArray 4 (0, 0))) ∧ Below w.heap.size w w' := by
  have HT := Lib.hid hT
  have hf1 := hT.task.reel.frames
  rw [hF] at hf1
  have hFF : F ≤ 200000 := by omega
  have X := Lib.hid h
  have hB := blk_lt h.blk
  have HF := Lib.hid hF
  have hnl := h.nt.le; have hnm := h.nt.max
  have x0 := h.blk
  rw [hF] at x0
  obtain ⟨na, nc⟩ := ns
  dsimp only at hnl hnm x0
  obtain ⟨n, hn⟩ : ∃ n, n = N.length := ⟨_, rfl⟩
  rw [← hn] at hnl x0
  have HNL := Lib.hid hn
  clear hT h hF hn
  go_enter Tryz.func47, Tryz.ntmps47
  go_upto_region 1 with (fail)
  have q0c := cell_blk x0
  have q0f := frz_blk x0
  refine join_key2 (C := fun (n m : Nat) u => Ext2 w u ∧ w.heap.size ≤ n ∧ w.heap.size ≤ m ∧ n ≠ m ∧ u.heap[n]? = some (.cells (boolL F fun _ => false).toArray 4 (0, 0)) ∧ u.heap[m]? = some (.cells (boolL F fun _ => false).toArray 4 (0, 0))) (Q := ?qq) (A := ?ax) (fun key => ?tr) ?ke
  case tr =>
    refine region_treeU (Ext2 w) (.flt [0, 1, 2, 3, 4, 5, 7, 8, 9, 10, 11, 12] (.two 6 (.flt [14] (.one 13 (.flt [15] .leaf))) 13 (.one 6 (.flt [14, 15] .leaf)))) (fun W h => h) (by kernel_rfl) (by kernel_rfl) (by intro c a d v w h; cases d <;> exact h) ?_
    intro u0 hE
    refine wpU_flt ?_
    simp only [picks, List.drop_succ_cons, List.drop_zero]
    repeat ((with_reducible refine wpQS_step (fun K hK => ?_)); go_simp; ((with_reducible refine hK _ ?_); clear hK K))
    (with_reducible refine wpQS_nil ?_)
    refine wpU_two ?pa ?pb
    case pa =>
      simp only [picks, List.drop_succ_cons, List.drop_zero]
      go_wp2_with (at_make; refine wpList_mk elBool rfl _ rfl F rfl (by omega) ?_)
      refine andU_name (fun u1 hu1 => ?_)
      obtain ⟨n, hn⟩ : ∃ b, b = u0.heap.size := ⟨_, rfl⟩
      have hN : u1.heap[n]? = some (.cells (boolL F fun _ => false).toArray 4 (0, 0)) := by rw [hu1, hn, ← made_boolL]; exact blk_new _ _
      have hE1 : Ext2 u0 u1 := by rw [hu1]; exact below_alloc' _ _
      have hl : w.heap.size ≤ n := by rw [hn]; exact hE.size
      rw [← hn]
      clear hu1 hn
      refine ⟨ext_trans hE hE1, ?_⟩
      refine wpU_flt ?_
      simp only [picks, List.drop_succ_cons, List.drop_zero]
      repeat ((with_reducible refine wpQS_step (fun K hK => ?_)); go_simp; ((with_reducible refine hK _ ?_); clear hK K))
      (with_reducible refine wpQS_nil ?_)
      refine wpU_one ?_
      simp only [picks, List.drop_succ_cons, List.drop_zero]
      go_wp2_with (at_make; refine wpList_mk elBool rfl _ rfl F rfl (by omega) ?_)
      refine andU_name (fun u2 hu2 => ?_)
      obtain ⟨m, hm⟩ : ∃ b, b = u1.heap.size := ⟨_, rfl⟩
      have hM : u2.heap[m]? = some (.cells (boolL F fun _ => false).toArray 4 (0, 0)) := by rw [hu2, hm, ← made_boolL' _ (made_boolL _)]; exact blk_new _ _
      have hE2 : Ext2 u1 u2 := by rw [hu2]; exact below_alloc' _ _
      have hl2 : n < m := by rw [hm]; exact blk_lt hN
      rw [← hm]
      clear hu2 hm
      have hEE := ext_trans (ext_trans hE hE1) hE2
      refine ⟨hEE, ?_⟩
      refine wpU_flt ?_
      simp only [picks, List.drop_succ_cons, List.drop_zero]
      repeat ((with_reducible refine wpQS_step (fun K hK => ?_)); go_simp; ((with_reducible refine hK _ ?_); clear hK K))
      (with_reducible refine wpQS_nil ?_)
      refine wpU_leaf ?_
      exact key n m _ ⟨hEE, hl, by omega, by omega, hE2.blk hN, hM⟩
    case pb =>
      simp only [picks, List.drop_succ_cons, List.drop_zero]
      go_wp2_with (at_make; refine wpList_mk elBool rfl _ rfl F rfl (by omega) ?_)
      refine andU_name (fun u1 hu1 => ?_)
      obtain ⟨m, hm⟩ : ∃ b, b = u0.heap.size := ⟨_, rfl⟩
      have hM : u1.heap[m]? = some (.cells (boolL F fun _ => false).toArray 4 (0, 0)) := by rw [hu1, hm, ← made_boolL]; exact blk_new _ _
      have hE1 : Ext2 u0 u1 := by rw [hu1]; exact below_alloc' _ _
      have hl : w.heap.size ≤ m := by rw [hm]; exact hE.size
      rw [← hm]
      clear hu1 hm
      refine ⟨ext_trans hE hE1, wpU_one ?_⟩
      simp only [picks, List.drop_succ_cons, List.drop_zero]
      go_wp2_with (at_make; refine wpList_mk elBool rfl _ rfl F rfl (by omega) ?_)
      refine andU_name (fun u2 hu2 => ?_)
      obtain ⟨n, hn⟩ : ∃ b, b = u1.heap.size := ⟨_, rfl⟩
      have hN : u2.heap[n]? = some (.cells (boolL F fun _ => false).toArray 4 (0, 0)) := by rw [hu2, hn, ← made_boolL' _ (made_boolL _)]; exact blk_new _ _
      have hE2 : Ext2 u1 u2 := by rw [hu2]; exact below_alloc' _ _
      have hl2 : m < n := by rw [hn]; exact blk_lt hM
      rw [← hn]
      clear hu2 hn
      have hEE := ext_trans (ext_trans hE hE1) hE2
      refine ⟨hEE, ?_⟩
      refine wpU_flt ?_
      simp only [picks, List.drop_succ_cons, List.drop_zero]
      repeat ((with_reducible refine wpQS_step (fun K hK => ?_)); go_simp; ((with_reducible refine hK _ ?_); clear hK K))
      (with_reducible refine wpQS_nil ?_)
      refine wpU_leaf ?_
      exact key n m _ ⟨hEE, by omega, hl, by omega, hN, hE2.blk hM⟩
  case ke =>
    rintro g1 g2 w3 ⟨hE3, l1, l2, hne, y1, y2⟩
    have HE3 := Lib.hid hE3; have Y1 := Lib.hid y1; have Y2 := Lib.hid y2
    clear x0 hE3 y1 y2
    go_wp2_with (fail)
    go_loopw [26] (fun i wr => ∃ k : Nat, i = .int .i64 k ∧ k ≤ F ∧ Ext2 w wr ∧ wr.heap[g1]? = some (.cells (boolL F fun _ => false).toArray 4 (0, 0)) ∧ wr.heap[g2]? = some (.cells (boolL F fun i => decide (i < k)).toArray 4 (0, 0))) (fun i _ => F - (intOf i).toNat)
    case atStart => exact ⟨0, rfl, by omega, HE3.out, Y1.out, by rw [Y2.out]; simp⟩
    case round =>
      clear HE3 Y1 Y2
      obtain ⟨k, rfl, hk, hE, y1, y2⟩ := hrel
      have HE := Lib.hid hE; have Y1 := Lib.hid y1; have Y2 := Lib.hid y2
      clear hE y1
      by_cases hlt : k < F
      · go_light
        have hc : wr.cell? ⟨g2, k, none⟩ = some (.bool false) := by
          rw [cell_blk y2]
          have := boolL_at (p := fun i => decide (i < k)) hlt
          simpa using this
        have hf : wr.frozen? ⟨g2, k, none⟩ = false := frz_blk y2 k
        have h0 : (0 : Int) ≤ (k : Int) := by omega
        have h1 : (k : Int) < (F : Int) := by omega
        have w2' : IntKind.i64.wrap ((k : Int) + 1) = (k : Int) + 1 := IntWalk.i64_in _ (by omega)
        clear y2
        go_wp2_with (fail)
        go_roundw
        case rel =>
          refine ⟨k + 1, by go_num, by omega, below_set HE.out l2, blk_set_ne Y1.out (Ne.symm hne), ?_⟩
          rw [blk_set Y2.out, boolL_set (q := fun i => decide (i < k + 1)) (v := true) (fun i hi => ?_)]
          by_cases hik : i = k
          · rw [if_pos hik]; exact decide_eq_true (by omega)
          · rw [if_neg hik]
            by_cases hlk : i < k
            · rw [decide_eq_true hlk]; exact decide_eq_true (by omega)
            · rw [decide_eq_false hlk]; exact decide_eq_false (by omega)
        case measure => simp [intOf]; omega
      · obtain rfl : F = k := by omega
        have y2' : wr.heap[g2]? = some (.cells (boolL F fun _ => true).toArray 4 (0, 0)) := by
          rw [Y2.out]
          congr 3
          have : ∀ p q : Nat → Bool, (∀ i, i < F → p i = q i) → boolL F p = boolL F q := fun p q h => by
            unfold boolL; exact List.map_congr_left fun i hi => by rw [h i (List.mem_range.1 hi)]
          exact this _ _ fun i hi => decide_eq_true hi
        have YT := Lib.hid y2'
        have x0 := (X.out.below HE.out).blk
        rw [HF.out, ← HNL.out] at x0
        dsimp only at x0
        clear y2 y2' Y2
        have q0c := cell_blk x0
        have q0f := frz_blk x0
        clear x0
        go_wp2_with (fail)
        clear q0c q0f
        go_loopw [38] (fun i wr => ∃ k : Nat, i = .int .i64 k ∧ k ≤ n ∧ Ext2 w wr ∧ wr.heap[g1]? = some (.cells (boolL F fun i => about (N.take k) kind (i : Int)).toArray 4 (0, 0)) ∧ wr.heap[g2]? = some (.cells (boolL F fun _ => true).toArray 4 (0, 0))) (fun i _ => n - (intOf i).toNat)
        case atStart => exact ⟨0, rfl, by omega, HE.out, by rw [Y1.out]; rfl, YT.out⟩
        case round =>
          clear HE Y1 YT
          obtain ⟨k, rfl, hk, hE, y1, y2⟩ := hrel
          have HE := Lib.hid hE; have Y1 := Lib.hid y1; have Y2 := Lib.hid y2
          clear hE y1 y2
          by_cases hlt : k < n
          · go_light
            have hkl : k < N.length := by rw [← HNL.out]; exact hlt
            obtain ⟨b, off, hsa, c0, c1, c2, c3, c4, c5, c6, c7⟩ := nt_cells (X.out.below HE.out).nt hkl
            dsimp only at hsa
            subst hsa
            have htk : N.take (k + 1) = N.take k ++ [ntD N k] := take_snoc hkl
            obtain ⟨hok, hfr⟩ := HT.out.note _ (nt_in hkl)
            rw [HF.out] at hfr
            have hf0 := hok.from_; have hu0 := hok.until_
            obtain ⟨x, hx⟩ : ∃ x, x = ntD N k := ⟨_, rfl⟩
            rw [← hx] at c0 c1 c2 c3 c4 c5 c6 c7 htk hf0 hu0 hfr
            obtain ⟨a, ha⟩ : ∃ a : Nat, x.from_ = (a : Int) := ⟨x.from_.toNat, by omega⟩
            obtain ⟨u, hu⟩ : ∃ u : Nat, x.until_ = (u : Int) := ⟨x.until_.toNat, by omega⟩
            have hab : a ≤ u := by omega
            have hub : u < F := by omega
            rw [ha] at c4; rw [hu] at c5
            have HA := Lib.hid ha; have HU := Lib.hid hu
            have HTK := Lib.hid htk
            have h0 : (0 : Int) ≤ (k : Int) := by omega
            have h1 : (k : Int) < (n : Int) := by omega
            have w2' : IntKind.i64.wrap ((k : Int) + 1) = (k : Int) + 1 := IntWalk.i64_in _ (by omega)
            have w3' : IntKind.i64.wrap ((u : Int) + 1) = (u : Int) + 1 := IntWalk.i64_in _ (by omega)
            clear htk hx hkl hf0 hu0 hfr hok ha hu
            go_upto_region 10 with (fail)
            clear c0 c1 c2 c3 c4 c5 c6 c7
            refine wp_name ?_
            intro w5 hw5
            obtain ⟨n9, hn9⟩ : ∃ n, n = wr.heap.size := ⟨_, rfl⟩
            have x9 : w5.heap[n9]? = some (.cells #[.string x.by_, .int .i64 x.number, .int .i64 x.rev, .int .i64 x.kind, .int .i64 (a : Int), .int .i64 (u : Int), .int .i64 x.mlo, .int .i64 x.mhi] 58 (0, 0)) := by rw [hw5, hn9]; exact blk_new _ _
            have hE5 : Ext2 wr w5 := by rw [hw5]; exact below_alloc' _ _
            have y1 := hE5.blk Y1.out; have y2 := hE5.blk Y2.out
            have HE5 := Lib.hid (ext_trans HE.out hE5)
            rw [← hn9]
            clear hw5 hn9 hE5 HE Y1 Y2
            have q9c := cell_blk x9
            have q9f := frz_blk x9
            by_cases hkd : x.kind = kind
            · have hbk : (x.kind == kind) = true := by simp [hkd]
              have HKD := Lib.hid hkd
              clear hkd
              obtain ⟨cs, hcs⟩ : ∃ cs, cs = List.replicate (u + 1 - a) (Value.bool true) := ⟨_, rfl⟩
              have hcl : cs.length = u + 1 - a := by rw [hcs, List.length_replicate]
              have hsrc : ∀ j v, cs[j]? = some v → w5.cell? ((⟨g2, 0, none⟩ : Addr).add j) = some v := fun j v hj => by
                rw [addr_add, Nat.zero_add, cell_blk y2]
                have hjl := (List.getElem?_eq_some_iff.1 hj).1
                rw [hcl] at hjl
                rw [hcs, List.getElem?_replicate, if_pos hjl] at hj
                rw [List.getElem?_toArray, boolL_at (by omega), ← hj]
              have hone : ∀ v ∈ cs, v.oneCell' = true := fun v hv => by
                rw [hcs] at hv; rw [List.eq_of_mem_replicate hv]; rfl
              have HSP : Hid (splice (boolL F fun i => about (N.take k) kind (i : Int)) a cs = boolL F fun i => about (N.take (k + 1)) kind (i : Int)) := Lib.hid (by
                rw [hcs, HTK.out]
                refine boolL_splice (by omega) fun i hi => ?_
                rw [about_snoc, decide_eq_true HKD.out]
                by_cases h : a ≤ i ∧ i < a + (u + 1 - a)
                · rw [if_pos h]
                  have : inB (i : Int) x.from_ x.until_ = true := inB_iff.2 (by rw [HA.out, HU.out]; omega)
                  rw [this]; simp
                · rw [if_neg h]
                  have : inB (i : Int) x.from_ x.until_ = false := by
                    cases hh : inB (i : Int) x.from_ x.until_
                    · rfl
                    · have := inB_iff.1 hh; rw [HA.out, HU.out] at this; omega
                  rw [this]; simp)
              have HSR := Lib.hid hsrc; have HY1 := Lib.hid y1; have HY2 := Lib.hid y2; have HCL := Lib.hid hcl; have HON := Lib.hid hone
              clear hcs hcl hsrc hone y1 y2
              have hrun : (Builtin.copy_ #[120, 120] 3 #[.slice (some ⟨g1, a, none⟩) (u + 1 - a) (u + 1 - a), .slice (some ⟨g2, 0, none⟩) F F]).run Tryz.prog w5 = .ok (goInt cs.length) (w5.setRow g1 ((boolL F fun i => about (N.take k) kind (i : Int)).toArray.toList.take a ++ cs ++ (boolL F fun i => about (N.take k) kind (i : Int)).toArray.toList.drop (a + cs.length)).toArray) := run_copy_row (P := Tryz.prog) w5 120 120 3 4 g1 a (u + 1 - a) (u + 1 - a) ⟨g2, 0, none⟩ F F _ 4 cs (by kernel_rfl) (by kernel_rfl) HY1.out (by rw [HCL.out]; exact (Nat.min_eq_right (show u + 1 - a ≤ F by omega)).symm) HSR.out (by rw [HCL.out, List.size_toArray, boolL_len]; omega) HON.out
              obtain ⟨w6, hw6⟩ : ∃ w6, w6 = w5.setRow g1 ((boolL F fun i => about (N.take k) kind (i : Int)).toArray.toList.take a ++ cs ++ (boolL F fun i => about (N.take k) kind (i : Int)).toArray.toList.drop (a + cs.length)).toArray := ⟨_, rfl⟩
              rw [← hw6] at hrun
              have z1 : w6.heap[g1]? = some (.cells (boolL F fun i => about (N.take (k + 1)) kind (i : Int)).toArray 4 (0, 0)) := by
                rw [hw6, setRow_heap _ _ _ _ _ _ HY1.out, ← HSP.out]; unfold splice; rw [List.append_assoc]
              have z2 : w6.heap[g2]? = some (.cells (boolL F fun _ => true).toArray 4 (0, 0)) := by
                rw [hw6, setRow_other _ _ _ _ (Ne.symm hne)]; exact HY2.out
              have hE6 : Ext2 w w6 := by rw [hw6]; exact below_setRow HE5.out l1 _
              have Z1 := Lib.hid z1; have Z2 := Lib.hid z2; have HE6 := Lib.hid hE6
              clear hw6 z1 z2 hE6
              go_wp2_with (fail)
              go_roundw
              case rel => exact ⟨k + 1, by go_num, by omega, HE6.out, Z1.out, Z2.out⟩
              case measure => simp [intOf]; omega
            · have hbk : (x.kind == kind) = false := by simp [hkd]
              have HKD := Lib.hid hkd
              have Y1 := Lib.hid y1; have Y2 := Lib.hid y2
              clear hkd y1 y2
              go_wp2_with (fail)
              go_roundw
              case rel =>
                refine ⟨k + 1, by go_num, by omega, HE5.out, ?_, Y2.out⟩
                rw [Y1.out, HTK.out]
                congr 3
                unfold boolL
                refine List.map_congr_left fun i hi => ?_
                show Value.bool (about (N.take k) kind (i : Int)) = Value.bool (about (N.take k ++ [x]) kind (i : Int))
                rw [about_snoc, decide_eq_false HKD.out]; simp
              case measure => simp [intOf]; omega
          · obtain rfl : n = k := by omega
            have y1 := Y1.out
            rw [List.take_of_length_le (by rw [← HNL.out]; exact Nat.le_refl _)] at y1
            have Y1' := Lib.hid y1
            clear y1
            go_wp2_with (fail)
            go_ret
            exact ⟨⟨g1, F, rfl, Nat.le_refl _, by omega, l1, Y1'.out⟩, HE.out⟩
end Go.Proofs.YtapeakbngligaaaGreatDoor
