/-
  ref.open.
-/
import Derived.Test.YtojomdojblgegaaGreatDoorBRSm
import Derived.Test.YtojomdojblgegaaGreatDoorBRGa
import Derived.Test.YtojomdojblgegaaGreatDoorBRS
namespace Go.Proofs.YtojomdojblgegaaGreatDoor.D
def sumsT (T : Task) : List IxG × List Int := sumsV (footV T.reel.gauge) T.reel.frames.toNat (standV T.notes) (gapsT T).1 T.reel.marks T.whole
theorem sumsT_grps (T : Task) : (sumsT T).1.map (toG (gapsT T).1) = (grpsT T).1 ∧ (sumsT T).2 = (grpsT T).2 := sumsV_grps _ _ _ _ _ _
theorem okT_sums (T : Task) : okT T = (sumsT T).1.all fun x => grpOk (toG (gapsT T).1 x) := by
  unfold okT; rw [← (sumsT_grps T).1, List.all_map]; rfl
structure SumOk (gs : List Gap) (x : IxG) : Prop where
  ix : ∃ p, x.1 = ixB gs.length p
  is : -100000000 ≤ x.2.lo ∧ x.2.lo ≤ 100000000 ∧ -100000000 ≤ x.2.hi ∧ x.2.hi ≤ 100000000
theorem SumOk.lt {gs : List Gap} {x : IxG} (h : SumOk gs x) : ∀ i ∈ x.1, i < gs.length := by
  obtain ⟨p, hp⟩ := h.ix; rw [hp]; exact ixB_lt
theorem SumOk.len {gs : List Gap} {x : IxG} (h : SumOk gs x) : x.1.length ≤ gs.length := by
  obtain ⟨p, hp⟩ := h.ix; rw [hp]; exact ixB_len _ _
theorem smK_ok {foot : Int} {F : Nat} {l : List Note} {gs : List Gap} {ms : List Mark} (hf : 0 ≤ foot ∧ foot ≤ 80) (hm : MarksIn F ms) (hF : F ≤ 200000) : ∀ k, k ≤ ms.length → ∀ x ∈ (smK foot F l gs ms k).all, SumOk gs x
  | 0, _, x, hx => by cases hx
  | k + 1, hk, x, hx => by
    have h := smK_ok (l := l) (gs := gs) hf hm hF k (by omega)
    rw [smK_succ] at hx
    unfold smS at hx
    split at hx
    · exact h x hx
    · rename_i hs
      have hk0 : 0 < k := by
        rcases Nat.eq_zero_or_pos k with h0 | h0
        · exact absurd (.inl h0) hs
        · exact h0
      have h1 := hm.mark (k - 1) (by omega); have h2 := hm.mark k (by omega)
      have h3 := miss_in (l := l) (a := mkD ms (k - 1)) (b := mkD ms k) hf h1.2.2 h2.2.2 (by omega) (by omega)
      split at hx
      · exact h x hx
      · rcases List.mem_append.1 hx with hx | hx
        · exact h x hx
        · rw [List.mem_singleton] at hx
          subst hx
          exact ⟨⟨_, rfl⟩, by dsimp only; omega⟩
theorem sumsT_ok {T : Task} (hc : (checkV T).2.2 = 0) : ∀ x ∈ (sumsT T).1, SumOk (gapsT T).1 x := by
  have hp := task_p hc
  have hrk := hp.ok.reel
  have hfr := hp.fr
  have hmk : MarksIn T.reel.frames.toNat T.reel.marks := ⟨hrk.nm, fun i hi => by have := hrk.mark i hi; omega, hrk.up⟩
  have hft : 0 ≤ footV T.reel.gauge ∧ footV T.reel.gauge ≤ 80 := by rcases foot_cases T.reel.gauge with h | h | h | h <;> omega
  have hw := hp.ok.whole
  have hn := hrk.nm
  intro x hx
  unfold sumsT sumsV at hx
  rcases List.mem_append.1 hx with hx | hx
  · exact smK_ok hft hmk hp.F1.2 _ (Nat.le_refl _) x hx
  · rw [List.mem_singleton] at hx
    subst hx
    have hl := smK_left (l := standV T.notes) (gs := (gapsT T).1) hft hmk hp.F1.2 T.reel.marks.length (Nat.le_refl _)
    exact ⟨⟨_, rfl⟩, by dsimp only; omega⟩
theorem gapsT_in {T : Task} (hc : (checkV T).2.2 = 0) : (∀ x ∈ (gapsT T).1, GapIn x) ∧ (gapsT T).1.length ≤ 200001 := by
  have hp := task_p hc
  have hF := hp.F1
  refine ⟨fun x hx => ?_, by have := hp.gaps.len; omega⟩
  have := hp.gaps.mem x hx
  unfold GapIn; omega
end Go.Proofs.YtojomdojblgegaaGreatDoor.D
namespace Go.Proofs.YtojomdojblgegaaGreatDoor
open Go.RowKit D
set_option linter.unusedVariables false
set_option linter.unusedSimpArgs false
attribute [local go_sem high] run_minI run_maxI
attribute [local go_sem] upon2 cls_cell cls_frozen forall_const exists_eq_left'
attribute [local go_sem] FirstUpon atBlk_cell
def isSl : Value → Bool
  | .slice _ _ _ => true
  | _ => false
/-- A block all whose cells are slices. -/
def SlB (W : World) (B : Nat) : Prop := ∃ cs t, W.heap[B]? = some (.cells cs t (0, 0)) ∧ ∀ u ∈ cs.toList, isSl u = true
theorem SlB.ext {W W' : World} {B : Nat} (h : SlB W B) (hE : Ext2 W W') : SlB W' B := by
  obtain ⟨cs, t, h1, h2⟩ := h
  exact ⟨cs, t, Ext2.blk hE h1, h2⟩
theorem SlB.set {W : World} {B : Nat} (h : SlB W B) (b o : Nat) {v : Value} (hv : isSl v = true) : SlB (W.setCell ⟨b, o, none⟩ v) B := by
  obtain ⟨cs, t, h1, h2⟩ := h
  by_cases hb : b = B
  · subst hb
    refine ⟨_, t, blk_set h1 o v, fun u hu => ?_⟩
    rw [Array.toList_setIfInBounds] at hu
    rcases List.mem_or_eq_of_mem_set hu with hu | rfl
    · exact h2 u hu
    · exact hv
  · exact ⟨cs, t, blk_set_ne h1 hb, h2⟩
/-- A view whose cells are no slices is not changed by a store into a block of slices. -/
theorem RowS.setB {W : World} {B : Nat} {s : Sl} {sz n : Nat} {c : Nat → Nat → Value} (h : RowS W s sz n c) (hB : SlB W B) (j0 : Nat) (hj0 : j0 < sz) (hc : ∀ i, isSl (c i j0) = false) (o : Nat) (v : Value) : RowS (W.setCell ⟨B, o, none⟩ v) s sz n c := by
  refine ⟨h.le, h.max, fun i j hi hj => ?_⟩
  obtain ⟨b, off, ha, h1⟩ := h.cell i j hi hj
  refine ⟨b, off, ha, ?_⟩
  obtain ⟨b', off', ha', h2⟩ := h.cell i j0 hi hj0
  rw [ha] at ha'
  have hne : B ≠ b := by
    intro he
    subst he
    cases ha'
    obtain ⟨cs, t, h3, h4⟩ := hB
    rw [cell_blk h3] at h2
    have hm : c i j0 ∈ cs.toList := by
      obtain ⟨hlt, he⟩ := Array.getElem?_eq_some_iff.1 h2
      rw [← he]; exact Array.getElem_mem_toList hlt
    have := h4 _ hm
    rw [hc i] at this; cases this
  rw [← h1]
  simp [World.cell?, World.setCell, Array.getElem?_modify, hne]
theorem SumsS.setB {W : World} {B : Nat} {s : Sl} {hs : Nat → Sl} {L : List IxG} (h : SumsS W s hs L) (hB : SlB W B) (o : Nat) (v : Value) : SumsS (W.setCell ⟨B, o, none⟩ v) s hs L :=
  ⟨h.row.setB hB 1 (by omega) (fun _ => rfl) o v, fun i hi => (h.each i hi).setB hB 0 (by omega) (fun _ => rfl) o v⟩
structure BookS (W : World) (N : List Note) (gs : List Gap) (L : List IxG) (K : List Strike) (R : List Int) (sn sg ss sk sw : Sl) (hs : Nat → Sl) : Prop where
  n : NotesS W sn N
  g : GapsS W sg gs
  s : SumsS W ss hs L
  k : StrikesS W sk K
  w : IntsS W sw R
theorem BookS.below {W W' : World} {N : List Note} {gs : List Gap} {L : List IxG} {K : List Strike} {R : List Int} {sn sg ss sk sw : Sl} {hs : Nat → Sl} (h : BookS W N gs L K R sn sg ss sk sw hs) (hE : Ext2 W W') : BookS W' N gs L K R sn sg ss sk sw hs :=
  ⟨RowS.below h.n hE, RowS.below h.g hE, h.s.below hE, RowS.below h.k hE, RowS.below h.w hE⟩
theorem BookS.setB {W : World} {B : Nat} {N : List Note} {gs : List Gap} {L : List IxG} {K : List Strike} {R : List Int} {sn sg ss sk sw : Sl} {hs : Nat → Sl} (h : BookS W N gs L K R sn sg ss sk sw hs) (hB : SlB W B) (o : Nat) (v : Value) : BookS (W.setCell ⟨B, o, none⟩ v) N gs L K R sn sg ss sk sw hs :=
  ⟨RowS.setB h.n hB 1 (by omega) (fun _ => rfl) o v, RowS.setB h.g hB 1 (by omega) (fun _ => rfl) o v, h.s.setB hB o v, RowS.setB h.k hB 1 (by omega) (fun _ => rfl) o v, RowS.setB h.w hB 0 (by omega) (fun _ => rfl) o v⟩
def OpenOut (w : World) (N : List Note) (gs : List Gap) (L : List IxG) (K : List Strike) (R : List Int) (v : Bool) (e : Ending) (w' : World) : Prop := (∃ (sn sg ss sk sw : Sl) (hs : Nat → Sl), e = .returned (.tuple #[.agg #[.slice sn.a N.length sn.cap, .slice sg.a gs.length sg.cap, .slice ss.a L.length ss.cap, .slice sk.a K.length sk.cap, .slice sw.a R.length sw.cap], .bool v]) ∧ BookS w' N gs L K R sn sg ss sk sw hs) ∧ Below w.heap.size w w'
set_option maxRecDepth 100000 in
set_option maxHeartbeats 8000000 in
theorem openR_any {T : Task} {t : TSl} {w : World} (hT : TaskAt w T t) (hc : (checkV T).2.2 = 0) : Calls Tryz.prog 49 #[.agg #[.string T.reel.name, .int .i64 T.reel.gauge, .int .i64 T.reel.base, .int .i64 T.reel.frames, .int .i64 T.reel.ylo, .int .i64 T.reel.yhi, .int .i64 T.reel.keep, .slice t.r.m.a T.reel.marks.length t.r.m.cap, .slice t.r.s.a T.reel.syms.length t.r.s.cap, .slice t.r.l.a T.reel.lens.length t.r.l.cap, .int .i64 T.whole.lo, .int .i64 T.whole.hi, .slice t.n.a T.notes.length t.n.cap]] w (OpenOut w (standV T.notes) (gapsT T).1 (sumsT T).1 (gapsT T).2 (sumsT T).2 (okT T)) := by
  have hp := task_p hc
  have hok := hp.ok
  have hnn := hok.nn
  have hsl : (standV T.notes).length ≤ 60 := by have h := standK_len (l := T.notes) (k := T.notes.length) (Nat.le_refl _); rw [List.take_length] at h; unfold standV; omega
  have hgi := gapsT_in hc
  have hso := sumsT_ok hc
  have hokt := okT_sums T
  have hfr := hp.fr; have hF1 := hp.F1
  have HSD := Lib.hid fun (W : World) (hW : Ext2 w W) => standingR_any (hT.below hW).nt (by omega)
  have HGP : Hid (∀ (sn : Sl) (W : World), NotesS W sn (standV T.notes) → Calls Tryz.prog 84 #[.agg #[.string T.reel.name, .int .i64 T.reel.gauge, .int .i64 T.reel.base, .int .i64 T.reel.frames, .int .i64 T.reel.ylo, .int .i64 T.reel.yhi, .int .i64 T.reel.keep, .slice t.r.m.a T.reel.marks.length t.r.m.cap, .slice t.r.s.a T.reel.syms.length t.r.s.cap, .slice t.r.l.a T.reel.lens.length t.r.l.cap, .int .i64 T.whole.lo, .int .i64 T.whole.hi, .slice t.n.a T.notes.length t.n.cap], .slice sn.a (standV T.notes).length sn.cap] W fun e w' => (∃ s1 s2 : Sl, e = .returned (.tuple #[.slice s1.a (gapsT T).1.length s1.cap, .slice s2.a (gapsT T).2.length s2.cap]) ∧ GapsS w' s1 (gapsT T).1 ∧ StrikesS w' s2 (gapsT T).2) ∧ Below W.heap.size W w') := Lib.hid fun sn W hN => gapsR_any (t := t) hfr hF1.2 hN (by omega)
  have HSM : Hid (∀ (sn sg : Sl) (W : World), Ext2 w W → NotesS W sn (standV T.notes) → GapsS W sg (gapsT T).1 → Calls Tryz.prog 85 #[.agg #[.string T.reel.name, .int .i64 T.reel.gauge, .int .i64 T.reel.base, .int .i64 T.reel.frames, .int .i64 T.reel.ylo, .int .i64 T.reel.yhi, .int .i64 T.reel.keep, .slice t.r.m.a T.reel.marks.length t.r.m.cap, .slice t.r.s.a T.reel.syms.length t.r.s.cap, .slice t.r.l.a T.reel.lens.length t.r.l.cap, .int .i64 T.whole.lo, .int .i64 T.whole.hi, .slice t.n.a T.notes.length t.n.cap], .slice sn.a (standV T.notes).length sn.cap, .slice sg.a (gapsT T).1.length sg.cap] W (SmOut W (sumsT T))) := Lib.hid fun sn sg W hW hN hG => sumsR_any hok (hT.below hW).reel.mks hfr hF1 hN hG hgi.1 hgi.2
  obtain ⟨N, hN⟩ : ∃ N, N = standV T.notes := ⟨_, rfl⟩
  obtain ⟨gs, hgs⟩ : ∃ N, N = (gapsT T).1 := ⟨_, rfl⟩
  obtain ⟨K, hK⟩ : ∃ N, N = (gapsT T).2 := ⟨_, rfl⟩
  obtain ⟨⟨L, R⟩, hLR⟩ : ∃ N, N = sumsT T := ⟨_, rfl⟩
  obtain ⟨v, hv⟩ : ∃ N, N = okT T := ⟨_, rfl⟩
  rw [← hN] at HSD HGP HSM ⊢
  rw [← hgs] at HGP HSM hgi hso hokt ⊢
  rw [← hK] at HGP ⊢
  rw [← hLR] at HSM hso hokt ⊢
  rw [← hv] at hokt ⊢
  dsimp only at hso hokt ⊢
  unfold SmOut at HSM
  dsimp only at HSM
  obtain ⟨nl, hnl⟩ : ∃ n, n = N.length := ⟨_, rfl⟩
  obtain ⟨gl, hgl⟩ : ∃ n, n = gs.length := ⟨_, rfl⟩
  obtain ⟨kl, hkl⟩ : ∃ n, n = K.length := ⟨_, rfl⟩
  obtain ⟨ll, hll⟩ : ∃ n, n = L.length := ⟨_, rfl⟩
  obtain ⟨wl, hwl⟩ : ∃ n, n = R.length := ⟨_, rfl⟩
  rw [← hnl] at HSD HGP HSM
  rw [← hgl] at HGP HSM
  rw [← hkl] at HGP
  rw [← hll] at HSM
  rw [← hwl] at HSM
  have HNL := Lib.hid hnl; have HGL := Lib.hid hgl; have HLL := Lib.hid hll; have HKL := Lib.hid hkl; have HWL := Lib.hid hwl; have HGI := Lib.hid hgi; have HSO := Lib.hid hso; have HOKT := Lib.hid hokt
  clear hT hc hp hok hnn hsl hgi hso hokt hfr hF1 hN hgs hK hLR hv hnl hgl hkl hll hwl
  go_enter Tryz.func49, Tryz.ntmps49
  go_upto_region 2 with (fail)
  refine wp_name ?_
  intro w3 hw3
  obtain ⟨n1, hn1⟩ : ∃ n, n = w.heap.size := ⟨_, rfl⟩
  obtain ⟨n2, hn2⟩ : ∃ n, n = n1 + 1 := ⟨_, rfl⟩
  obtain ⟨n4, hn4⟩ : ∃ n, n = n2 + 1 := ⟨_, rfl⟩
  have x1 : w3.heap[n1]? = some (Obj.cells #[.string T.reel.name, .int .i64 T.reel.gauge, .int .i64 T.reel.base, .int .i64 T.reel.frames, .int .i64 T.reel.ylo, .int .i64 T.reel.yhi, .int .i64 T.reel.keep, .slice t.r.m.a T.reel.marks.length t.r.m.cap, .slice t.r.s.a T.reel.syms.length t.r.s.cap, .slice t.r.l.a T.reel.lens.length t.r.l.cap, .int .i64 T.whole.lo, .int .i64 T.whole.hi, .slice t.n.a T.notes.length t.n.cap] 38) := by rw [hw3, hn1]; exact blk_alloc (blk_alloc (blk_new _ _) _) _
  have x2 : w3.heap[n2]? = some (.cells #[.slice none 0 0, .slice none 0 0, .slice none 0 0, .slice none 0 0, .slice none 0 0] 110 (0, 0)) := by rw [hw3, hn2, hn1]; exact blk_alloc (blk_new' _ _ (by simp)) _
  have x4 : w3.heap[n4]? = some (.cells #[.slice none 0 0, .slice none 0 0, .slice none 0 0, .slice none 0 0, .slice none 0 0] 110 (0, 0)) := by rw [hw3, hn4, hn2, hn1]; exact blk_new' _ _ (by simp)
  have hE3 : Ext2 w w3 := by rw [hw3]; exact ext_trans (ext_trans (below_alloc' _ _) (below_alloc' _ _)) (below_alloc' _ _)
  have lw : w.heap.size ≤ n4 := by omega
  have l24 : n2 < n4 := by omega
  have l14 : n1 < n4 := by omega
  have lw2 : w.heap.size ≤ n2 := by omega
  rw [← hn1]
  try rw [← hn2]
  try rw [← hn4]
  have HE3 := Lib.hid hE3; have X1 := Lib.hid x1; have X2 := Lib.hid x2; have X4 := Lib.hid x4
  clear hw3 hn1 hn2 hn4 hE3 x2
  have q1c := cell_blk x1
  have q1f := frz_blk x1
  have q4c := cell_blk x4
  have q4f := frz_blk x4
  clear x1 x4
  go_wp2_with (fail)
  (with_reducible refine (HSD.out _ HE3.out).mono ?_)
  rintro e w4 ⟨⟨⟨na, nc⟩, rfl, hN4⟩, hE4⟩
  have x4 := Ext2.blk hE4 X4.out
  have HE4 := Lib.hid (ext_trans HE3.out hE4); have X14 := Lib.hid (Ext2.blk hE4 X1.out); have X24 := Lib.hid (Ext2.blk hE4 X2.out); have X44 := Lib.hid x4; have HN4 := Lib.hid hN4
  clear q1c q1f q4c q4f hE4 hN4 X1 X2 X4 HE3 HSD
  have q4c := cell_blk x4
  have q4f := frz_blk x4
  clear x4
  go_upto_region 3 with (fail)
  refine wp_name ?_
  intro w5 hw5
  have x4 : w5.heap[n4]? = some (.cells #[.slice na nl nc, .slice none 0 0, .slice none 0 0, .slice none 0 0, .slice none 0 0] 110 (0, 0)) := by rw [hw5]; exact Eq.trans (blk_set X44.out _ _) rfl
  have x1 : w5.heap[n1]? = some (Obj.cells #[.string T.reel.name, .int .i64 T.reel.gauge, .int .i64 T.reel.base, .int .i64 T.reel.frames, .int .i64 T.reel.ylo, .int .i64 T.reel.yhi, .int .i64 T.reel.keep, .slice t.r.m.a T.reel.marks.length t.r.m.cap, .slice t.r.s.a T.reel.syms.length t.r.s.cap, .slice t.r.l.a T.reel.lens.length t.r.l.cap, .int .i64 T.whole.lo, .int .i64 T.whole.hi, .slice t.n.a T.notes.length t.n.cap] 38) := by rw [hw5]; exact blk_set_ne X14.out (by omega)
  have HE5 : Hid (Ext2 w w5) := Lib.hid (by rw [hw5]; exact below_set HE4.out lw)
  have X25 : Hid (w5.heap[n2]? = some (Obj.cells #[.slice none 0 0, .slice none 0 0, .slice none 0 0, .slice none 0 0, .slice none 0 0] 110 (0, 0))) := Lib.hid (by rw [hw5]; exact blk_set_ne X24.out (by omega))
  have HN5 : Hid (NotesS w5 ⟨na, nc⟩ N) := Lib.hid (by rw [hw5]; exact RowS.setB HN4.out ⟨_, _, X44.out, by simp [isSl]⟩ 1 (by omega) (fun _ => rfl) _ _)
  have X15 := Lib.hid x1; have X45 := Lib.hid x4
  clear q4c q4f hw5 X14 X24 X44 HN4 HE4
  have q1c := cell_blk x1
  have q1f := frz_blk x1
  have q4c := cell_blk x4
  have q4f := frz_blk x4
  clear x1 x4
  go_wp2_with (fail)
  (with_reducible refine (HGP.out ⟨na, nc⟩ _ HN5.out).mono ?_)
  rintro e w6 ⟨⟨⟨ga, gc⟩, ⟨ka, kc⟩, rfl, hG6, hK6⟩, hE6⟩
  have x4 := Ext2.blk hE6 X45.out
  have HE6 := Lib.hid (ext_trans HE5.out hE6); have X16 := Lib.hid (Ext2.blk hE6 X15.out); have X26 := Lib.hid (Ext2.blk hE6 X25.out); have X46 := Lib.hid x4; have HG6 := Lib.hid hG6; have HK6 := Lib.hid hK6; have HN6 := Lib.hid (RowS.below HN5.out hE6)
  clear q1c q1f q4c q4f hE6 hG6 hK6 X15 X25 X45 HE5 HN5 HGP
  have q4c := cell_blk x4
  have q4f := frz_blk x4
  clear x4
  go_upto_region 4 with (fail)
  refine wp_name ?_
  intro w7 hw7
  have sb6 : SlB w6 n4 := ⟨_, _, X46.out, by simp [isSl]⟩
  have sb6' := SlB.set sb6 n4 1 (v := .slice ga gl gc) rfl
  have x4 : w7.heap[n4]? = some (.cells #[.slice na nl nc, .slice ga gl gc, .slice none 0 0, .slice ka kl kc, .slice none 0 0] 110 (0, 0)) := by rw [hw7]; exact Eq.trans (blk_set (blk_set X46.out _ _) _ _) rfl
  have x1 : w7.heap[n1]? = some (Obj.cells #[.string T.reel.name, .int .i64 T.reel.gauge, .int .i64 T.reel.base, .int .i64 T.reel.frames, .int .i64 T.reel.ylo, .int .i64 T.reel.yhi, .int .i64 T.reel.keep, .slice t.r.m.a T.reel.marks.length t.r.m.cap, .slice t.r.s.a T.reel.syms.length t.r.s.cap, .slice t.r.l.a T.reel.lens.length t.r.l.cap, .int .i64 T.whole.lo, .int .i64 T.whole.hi, .slice t.n.a T.notes.length t.n.cap] 38) := by rw [hw7]; exact blk_set_ne (blk_set_ne X16.out (by omega)) (by omega)
  have HE7 : Hid (Ext2 w w7) := Lib.hid (by rw [hw7]; exact below_set (below_set HE6.out lw) lw)
  have X27 : Hid (w7.heap[n2]? = some (Obj.cells #[.slice none 0 0, .slice none 0 0, .slice none 0 0, .slice none 0 0, .slice none 0 0] 110 (0, 0))) := Lib.hid (by rw [hw7]; exact blk_set_ne (blk_set_ne X26.out (by omega)) (by omega))
  have HN7 : Hid (NotesS w7 ⟨na, nc⟩ N) := Lib.hid (by rw [hw7]; exact RowS.setB (RowS.setB HN6.out sb6 1 (by omega) (fun _ => rfl) _ _) sb6' 1 (by omega) (fun _ => rfl) _ _)
  have HG7 : Hid (GapsS w7 ⟨ga, gc⟩ gs) := Lib.hid (by rw [hw7]; exact RowS.setB (RowS.setB HG6.out sb6 1 (by omega) (fun _ => rfl) _ _) sb6' 1 (by omega) (fun _ => rfl) _ _)
  have HK7 : Hid (StrikesS w7 ⟨ka, kc⟩ K) := Lib.hid (by rw [hw7]; exact RowS.setB (RowS.setB HK6.out sb6 1 (by omega) (fun _ => rfl) _ _) sb6' 1 (by omega) (fun _ => rfl) _ _)
  have X17 := Lib.hid x1; have X47 := Lib.hid x4
  clear q4c q4f hw7 X16 X26 X46 HN6 HG6 HK6 HE6 sb6 sb6'
  have q1c := cell_blk x1
  have q1f := frz_blk x1
  have q4c := cell_blk x4
  have q4f := frz_blk x4
  clear x1 x4
  go_wp2_with (fail)
  (with_reducible refine (HSM.out ⟨na, nc⟩ ⟨ga, gc⟩ _ HE7.out HN7.out HG7.out).mono ?_)
  rintro e w8 ⟨⟨⟨la, lc⟩, ⟨wa, wc⟩, hs, rfl, hS8, hW8⟩, hE8⟩
  have x4 := Ext2.blk hE8 X47.out
  have HE8 := Lib.hid (ext_trans HE7.out hE8); have X28 := Lib.hid (Ext2.blk hE8 X27.out); have X48 := Lib.hid x4
  have HB8 : Hid (BookS w8 N gs L K R ⟨na, nc⟩ ⟨ga, gc⟩ ⟨la, lc⟩ ⟨ka, kc⟩ ⟨wa, wc⟩ hs) := Lib.hid ⟨RowS.below HN7.out hE8, RowS.below HG7.out hE8, hS8, RowS.below HK7.out hE8, hW8⟩
  clear q1c q1f q4c q4f hE8 hS8 hW8 X17 X27 X47 HE7 HN7 HG7 HK7 HSM
  have q4c := cell_blk x4
  have q4f := frz_blk x4
  clear x4
  go_upto_region 5 with (fail)
  refine wp_name ?_
  intro w9 hw9
  have sb8 : SlB w8 n4 := ⟨_, _, X48.out, by simp [isSl]⟩
  have sb8' := SlB.set sb8 n4 2 (v := .slice la ll lc) rfl
  have x4 : w9.heap[n4]? = some (.cells #[.slice na nl nc, .slice ga gl gc, .slice la ll lc, .slice ka kl kc, .slice wa wl wc] 110 (0, 0)) := by rw [hw9]; exact Eq.trans (blk_set (blk_set X48.out _ _) _ _) rfl
  have HE9 : Hid (Ext2 w w9) := Lib.hid (by rw [hw9]; exact below_set (below_set HE8.out lw) lw)
  have X29 : Hid (w9.heap[n2]? = some (Obj.cells #[.slice none 0 0, .slice none 0 0, .slice none 0 0, .slice none 0 0, .slice none 0 0] 110 (0, 0))) := Lib.hid (by rw [hw9]; exact blk_set_ne (blk_set_ne X28.out (by omega)) (by omega))
  have HB9 : Hid (BookS w9 N gs L K R ⟨na, nc⟩ ⟨ga, gc⟩ ⟨la, lc⟩ ⟨ka, kc⟩ ⟨wa, wc⟩ hs) := Lib.hid (by rw [hw9]; exact (HB8.out.setB sb8 _ _).setB sb8' _ _)
  have X49 := Lib.hid x4
  clear q4c q4f hw9 X28 X48 HB8 HE8 sb8 sb8' x4
  have hls := HB9.out.s.row.le; have hlm := HB9.out.s.row.max
  rw [← HLL.out] at hls
  dsimp only at hls hlm
  go_wp2_with (fail)
  go_loopw [5] (fun i W => ∃ k : Nat, i = .int .i64 k ∧ k ≤ ll ∧ Ext2 w9 W ∧ ∀ q, q < k → grpOk (toG gs (ixgD L q)) = true) (fun i _ => ll - (intOf i).toNat)
  case atStart => exact ⟨0, rfl, by omega, Below.refl _ _, fun q hq => absurd hq (Nat.not_lt_zero q)⟩
  case round =>
    obtain ⟨k, rfl, hk, hE9, hall⟩ := hrel
    have HALL := Lib.hid hall
    have HE : Hid (Ext2 w wr) := Lib.hid (ext_trans HE9.out hE9)
    have X2 := Lib.hid (Ext2.blk hE9 X29.out); have X4 := Lib.hid (Ext2.blk hE9 X49.out); have HBK := Lib.hid (HB9.out.below hE9); have HEW := Lib.hid hE9
    have x4 := X4.out
    have q4c := cell_blk x4
    have q4f := frz_blk x4
    clear hE9 hall x4
    by_cases hlt : k < ll
    · have hkl : k < L.length := by rw [← HLL.out]; exact hlt
      have hmem : ixgD L k ∈ L := by unfold ixgD; rw [List.getD_eq_getElem?_getD, List.getElem?_eq_getElem hkl]; exact List.getElem_mem hkl
      have hok1 := HSO.out _ hmem
      obtain ⟨b, off, hla, hcl⟩ := HBK.out.s.row.at (by omega) (i := k) hkl
      have c0 := hcl 0 (by omega); have c1 := hcl 1 (by omega); have c2 := hcl 2 (by omega)
      rw [Nat.add_zero] at c0
      have hix := HBK.out.s.each k hkl
      obtain ⟨X, hX⟩ : ∃ X, X = ixgD L k := ⟨_, rfl⟩
      simp only [smC] at c0 c1 c2
      rw [← hX] at c0 c1 c2 hok1 hix hmem
      obtain ⟨hd, hhd⟩ : ∃ X, X = hs k := ⟨_, rfl⟩
      rw [← hhd] at c0 hix
      have hgi := HGI.out
      have hgl : gl = gs.length := HGL.out
      have hen := fun (W : World) (hW : Ext2 wr W) => endsR_any (RowS.below HBK.out.g hW) (RowS.below hix hW) hok1.lt hgi.1 (by have := hok1.len; omega)
      rw [← hgl] at hen
      dsimp only at hen
      obtain ⟨E, hE⟩ : ∃ E, E = endsS (X.1.map (gpD gs)) := ⟨_, rfl⟩
      obtain ⟨xn, hxn⟩ : ∃ n, n = X.1.length := ⟨_, rfl⟩
      rw [← hE, ← hxn] at hen
      rw [← hxn] at c0
      obtain ⟨S, hS⟩ : ∃ S, S = comS E X.2 := ⟨_, rfl⟩
      have HEN := Lib.hid hen
      have HCM : Hid (∀ W, Calls Tryz.prog 86 #[.agg #[.int .i64 E.lo, .int .i64 E.hi], .agg #[.int .i64 X.2.lo, .int .i64 X.2.hi]] W fun e w' => e = .returned (.agg #[.int .i64 S.lo, .int .i64 S.hi]) ∧ Below W.heap.size W w') := Lib.hid fun W => by rw [hS]; exact commonR_any _ _ W
      have HGK : Hid (grpOk (toG gs (ixgD L k)) = decide (S.lo ≤ S.hi)) := Lib.hid (by rw [← hX, hS, hE]; rfl)
      have HMEM : Hid (ixgD L k ∈ L) := Lib.hid (by rw [← hX]; exact hmem)
      dsimp only at hla
      subst hla
      have g1 : (0 : Int) ≤ (k : Int) := by omega
      have g2 : (k : Int) < (ll : Int) := by omega
      have e1 : decide ((0 : Int) ≤ (k : Int)) = true := decide_eq_true g1
      have e2 : decide ((k : Int) < (ll : Int)) = true := decide_eq_true g2
      have w2' : IntKind.i64.wrap ((k : Int) + 1) = (k : Int) + 1 := IntWalk.i64_in _ (by omega)
      clear hkl hmem hok1 hcl hix hX hhd hgi hgl hen hE hxn hS
      go_upto_region 8 with (fail)
      refine region_ev [] [0, 1, 2, 3, 4, 5, 6, 7, 8, 9, 10, 11, 12, 13, 14, 15] [(16, 6, some 17)] [] (by kernel_rfl) (by kernel_rfl) (by intro c a d v w h; cases d <;> exact h) ?_
      simp only [picks, List.drop_succ_cons, List.drop_zero]
      repeat (refine wpQ0_step (fun K hK => ?_); go_simp; (refine hK _ ?_; clear hK K))
      refine wpQ0_nil ?_
      repeat ((with_reducible refine wpQ2_step (fun K hK => ?_)); go_simp; first | ((with_reducible refine hK _ ?_); clear hK K) | (apply Exists.intro; refine ⟨fun x => ?_, hK _ ?_⟩; ((first | (with_reducible exact HEN.out x.1 x.2) | (with_reducible exact HCM.out x.1))); clear hK K) | (refine ite_undef (fun h => (by have h_ : (none : Option Bool) = some _ := h; cases h_)) ?_; (with_reducible refine hK _ ?_); clear hK K))
      (with_reducible refine wpQ2_nil ?_)
      refine Events.fill1 (fun b => .pointer (some ⟨b, 0, none⟩)) (Obj.cells #[.int .i64 (0), .int .i64 (0)] 31) (Obj.cells #[.int .i64 S.lo, .int .i64 S.hi] 31) ⟨_, rfl, rfl, rfl, fun W => by kernel_rfl⟩ ⟨_, rfl, rfl, rfl, fun b W hb => ?_⟩ fun n6 w10 hn6 hg10 nn6 => ?_
      · have hbc := cell_blk hb; have hbf := frz_blk hb; go_simp; exact turn_two hb _ _
      simp only [picks, List.drop_succ_cons, List.drop_zero]
      have HEX := Lib.hid (ext_trans HEW.out hg10); have HE10 := Lib.hid (ext_trans HE.out hg10); have X210 := Lib.hid (Ext2.blk hg10 X2.out); have X410 := Lib.hid (Ext2.blk hg10 X4.out); have HBK10 := Lib.hid (HBK.out.below hg10)
      have y6 := nn6; have x4 := X410.out
      clear q4c q4f c0 c1 c2 hg10 hn6 nn6 HEN HCM HEW HE X2 X4 HBK
      have q6c := cell_blk y6
      have q6f := frz_blk y6
      have q4c := cell_blk x4
      have q4f := frz_blk x4
      clear x4 y6
      by_cases hS : S.lo ≤ S.hi
      · have d1 : decide (S.hi < S.lo) = false := decide_eq_false (by omega)
        have d2 : ¬ S.hi < S.lo := by omega
        have HA2 : Hid (∀ q, q < k + 1 → grpOk (toG gs (ixgD L q)) = true) := Lib.hid fun q hq => by
          rcases Nat.lt_or_ge q k with h | h
          · exact HALL.out q h
          · obtain rfl : q = k := by omega
            rw [HGK.out, decide_eq_true hS]
        clear hS
        go_wp2_with (fail)
        go_roundw
        case rel => exact ⟨k + 1, by go_num, by omega, HEX.out, HA2.out⟩
        case measure => simp [intOf]; omega
      · have d1 : decide (S.hi < S.lo) = true := decide_eq_true (by omega)
        have d2 : S.hi < S.lo := by omega
        have HVV : Hid (v = false) := Lib.hid (by
          rw [HOKT.out]
          cases hc : L.all (fun x => grpOk (toG gs x)) with
          | false => rfl
          | true => have h := List.all_eq_true.1 hc _ HMEM.out; rw [HGK.out, decide_eq_false hS] at h; cases h)
        clear hS
        have HE := HE10; have HBK := HBK10; have X2 := X210
        obtain ⟨wr, hwr⟩ : ∃ x, x = w10 := ⟨_, rfl⟩
        subst hwr
        have x2 := X2.out
        have q2c := cell_blk x2
        have q2f := frz_blk x2
        clear x2
        go_wp2_with (fail)
        have sb0 : SlB wr n2 := ⟨_, _, X2.out, by simp [isSl]⟩
        have sb1 := SlB.set sb0 n2 0 (v := .slice na nl nc) rfl
        have sb2 := SlB.set sb1 n2 1 (v := .slice ga gl gc) rfl
        have sb3 := SlB.set sb2 n2 2 (v := .slice (some ⟨b, off, none⟩) ll lc) rfl
        have sb4 := SlB.set sb3 n2 3 (v := .slice ka kl kc) rfl
        have r1 : (((((wr.setCell ⟨n2, 0, none⟩ (.slice na nl nc)).setCell ⟨n2, 1, none⟩ (.slice ga gl gc)).setCell ⟨n2, 2, none⟩ (.slice (some ⟨b, off, none⟩) ll lc)).setCell ⟨n2, 3, none⟩ (.slice ka kl kc)).setCell ⟨n2, 4, none⟩ (.slice wa wl wc)).heap[n2]? = some (.cells #[.slice na nl nc, .slice ga gl gc, .slice (some ⟨b, off, none⟩) ll lc, .slice ka kl kc, .slice wa wl wc] 110 (0, 0)) := Eq.trans (blk_set (blk_set (blk_set (blk_set (blk_set X2.out _ _) _ _) _ _) _ _) _ _) rfl
        refine bodyPost_ret (v := .tuple #[.agg #[.slice na nl nc, .slice ga gl gc, .slice (some ⟨b, off, none⟩) ll lc, .slice ka kl kc, .slice wa wl wc], .bool false]) ?_ rfl ⟨⟨⟨na, nc⟩, ⟨ga, gc⟩, ⟨(some ⟨b, off, none⟩), lc⟩, ⟨ka, kc⟩, ⟨wa, wc⟩, hs, by rw [HVV.out, HNL.out, HGL.out, HLL.out, HKL.out, HWL.out], ((((HBK.out.setB sb0 _ _).setB sb1 _ _).setB sb2 _ _).setB sb3 _ _).setB sb4 _ _⟩, below_set (below_set (below_set (below_set (below_set HE.out lw2) lw2) lw2) lw2) lw2⟩
        have zc := cell_blk r1
        have zf := frz_blk r1
        simp [results, Tryz.results49, go_sem, zc]
    · obtain rfl : ll = k := by omega
      have hgg : ¬ (ll : Int) < (ll : Int) := by omega
      have HVV : Hid (v = true) := Lib.hid (by
        rw [HOKT.out]
        refine List.all_eq_true.2 fun x hx => ?_
        obtain ⟨i, hi, rfl⟩ := List.getElem_of_mem hx
        have h := HALL.out i (by rw [HLL.out]; exact hi)
        unfold ixgD at h
        rw [List.getD_eq_getElem?_getD, List.getElem?_eq_getElem hi] at h
        exact h)
      have x2 := X2.out
      have q2c := cell_blk x2
      have q2f := frz_blk x2
      clear x2
      go_wp2_with (fail)
      have sb0 : SlB wr n2 := ⟨_, _, X2.out, by simp [isSl]⟩
      have sb1 := SlB.set sb0 n2 0 (v := .slice na nl nc) rfl
      have sb2 := SlB.set sb1 n2 1 (v := .slice ga gl gc) rfl
      have sb3 := SlB.set sb2 n2 2 (v := .slice la ll lc) rfl
      have sb4 := SlB.set sb3 n2 3 (v := .slice ka kl kc) rfl
      have r1 : (((((wr.setCell ⟨n2, 0, none⟩ (.slice na nl nc)).setCell ⟨n2, 1, none⟩ (.slice ga gl gc)).setCell ⟨n2, 2, none⟩ (.slice la ll lc)).setCell ⟨n2, 3, none⟩ (.slice ka kl kc)).setCell ⟨n2, 4, none⟩ (.slice wa wl wc)).heap[n2]? = some (.cells #[.slice na nl nc, .slice ga gl gc, .slice la ll lc, .slice ka kl kc, .slice wa wl wc] 110 (0, 0)) := Eq.trans (blk_set (blk_set (blk_set (blk_set (blk_set X2.out _ _) _ _) _ _) _ _) _ _) rfl
      refine bodyPost_ret (v := .tuple #[.agg #[.slice na nl nc, .slice ga gl gc, .slice la ll lc, .slice ka kl kc, .slice wa wl wc], .bool true]) ?_ rfl ⟨⟨⟨na, nc⟩, ⟨ga, gc⟩, ⟨la, lc⟩, ⟨ka, kc⟩, ⟨wa, wc⟩, hs, by rw [HVV.out, HNL.out, HGL.out, HLL.out, HKL.out, HWL.out], ((((HBK.out.setB sb0 _ _).setB sb1 _ _).setB sb2 _ _).setB sb3 _ _).setB sb4 _ _⟩, below_set (below_set (below_set (below_set (below_set HE.out lw2) lw2) lw2) lw2) lw2⟩
      have zc := cell_blk r1
      have zf := frz_blk r1
      simp [results, Tryz.results49, go_sem, zc]
end Go.Proofs.YtojomdojblgegaaGreatDoor
