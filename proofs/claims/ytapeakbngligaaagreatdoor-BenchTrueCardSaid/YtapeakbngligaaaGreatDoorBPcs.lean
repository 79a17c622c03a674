/-
  (*bench.table).pieces: an iterator.
-/
import Derived.Test.YtapeakbngligaaaGreatDoorBLay
import Derived.Test.YtapeakbngligaaaGreatDoorBCutD
import Derived.Test.YtapeakbngligaaaGreatDoorBPlA
namespace Go.Proofs.YtapeakbngligaaaGreatDoor
open Go.RowKit D
set_option linter.unusedVariables false
set_option linter.unusedSimpArgs false
attribute [local go_sem high] run_minI run_maxI
attribute [local go_sem] upon2 cls_cell cls_frozen forall_const exists_eq_left'
attribute [local go_sem] FirstUpon atBlk_cell
/-- The table behind its box. -/
structure PicAt (bx : Nat) (T : Task) (t : TSl) (N : List Note) (ns : Sl) (B g F : Nat) (W : World) : Prop where
  box : W.heap[bx]? = some (.cells #[.pointer (some ⟨B, 0, none⟩)] 84 (0, 0))
  tab : Tab W T t N ns B g F
theorem PicAt.below {bx : Nat} {T : Task} {t : TSl} {N : List Note} {ns : Sl} {B g F : Nat} {W W' : World} (h : PicAt bx T t N ns B g F W) (hb : Below W.heap.size W W') : PicAt bx T t N ns B g F W' := ⟨below_blk hb h.box (blk_lt h.box), h.tab.below hb⟩
/-- What lay below stays, whatever turns above. -/
theorem Tab.above {T : Task} {t : TSl} {N : List Note} {ns : Sl} {B g F : Nat} {W0 W W' : World} (h0 : Tab W0 T t N ns B g F) (h : Tab W T t N ns B g F) (hb : Below W0.heap.size W W') : Tab W' T t N ns B g F :=
  ⟨⟨below_blk hb h.tab.blk (blk_lt h0.tab.blk), h.tab.nt.kept (fun _ _ ha hn hz => h0.tab.nt.block ha hn hz) hb⟩, below_blk hb h.pic (blk_lt h0.pic), h.mks.kept (fun _ _ ha hn hz => h0.mks.block ha hn hz) hb, h.ok, h.fr⟩
theorem PicAt.above {bx : Nat} {T : Task} {t : TSl} {N : List Note} {ns : Sl} {B g F : Nat} {W0 W W' : World} (h0 : PicAt bx T t N ns B g F W0) (h : PicAt bx T t N ns B g F W) (hb : Below W0.heap.size W W') : PicAt bx T t N ns B g F W' := ⟨below_blk hb h.box (blk_lt h0.box), h0.tab.above h.tab hb⟩
set_option maxRecDepth 100000 in
set_option maxHeartbeats 8000000 in
theorem pieces_in (Fe : Fence) (hFe : Fe = Fence.wide) (hro : Fe.round = none) {T : Task} {t : TSl} {N : List Note} {ns : Sl} {B g F bx A M : Nat} (hM : M = (pieceK N F).length)
    (ts : Nat → Nat → TypeId → Prop) (l : Nat) (I X : Nat → Nat → World → Prop) (W : World) (hp0 : PicAt bx T t N ns B g F W) (hpk : ∀ C W1 W2, PicAt bx T t N ns B g F W1 → Bw A (ts C) W1 W2 → PicAt bx T t N ns B g F W2) (hts : ∀ C g t, W.heap.size ≤ g → g < C → ¬ ts C g t) (h0 : ∀ W1, Ext2 W W1 → I W1.heap.size 0 W1) (hI : ∀ C k W1 W2, I C k W1 → Sb W.heap.size C W1 W2 → I C k W2)
    (hY : ∀ C k W1, k < M → W.heap.size ≤ C → C ≤ W1.heap.size → I C k W1 → YieldAt Fe 0 Tryz.prog l #[.agg #[.int .i64 (pcD (pieceK N F) k).from_, .int .i64 (pcD (pieceK N F) k).until_, .bool (pcD (pieceK N F) k).leader]] W1 fun e W' => (e = .returned (.bool true) ∧ Bw A (ts C) W1 W' ∧ I C (k + 1) W') ∨ (e = .returned (.bool false) ∧ KeepsFrom W.heap.size W1 W' ∧ X C k W')) :
    CallsIn Fe 1 Tryz.prog 61 (#[.func (.yield l) #[] #[]] ++ #[.pointer (some ⟨bx, 0, none⟩)]) W fun e W' => (∃ v, e = .returned v) ∧ ∃ C, W.heap.size ≤ C ∧ (I C M W' ∨ ∃ k, k < M ∧ X C k W') := by
  have HY := Lib.hid hY; have HPK := Lib.hid hpk; have H0 := Lib.hid h0; have HP0 := Lib.hid hp0; have HTS := Lib.hid hts; have HI := Lib.hid hI; have HF := Lib.hid hFe; have HM := Lib.hid hM
  have hle := hp0.tab.le
  have c1 := hp0.box
  have HLD := Lib.hid fun (W1 : World) (hP : PicAt bx T t N ns B g F W1) (f : Int) (h1 : 0 ≤ f) (h2 : f < F) => leader_any hP.tab h1 h2
  have HMK := Lib.hid fun (W1 : World) (hP : PicAt bx T t N ns B g F W1) => marked_any hP.tab.tab hP.tab.ok hP.tab.fr 1
  clear hY hpk h0 hp0 hts hI hM
  refine callsIn_of_wp Tryz.func61 rfl (by rw [hFe]; trivial) ?_ hro
  clear hFe
  simp only [Tryz.ntmps61, List.size_toArray, List.length_cons, List.length_nil, Nat.reduceAdd, Nat.reduceSub, Array.replicate_succ, Array.replicate_zero, List.push_toArray, List.append_toArray, List.nil_append, List.cons_append]
  have q1c := cell_blk c1
  have q1f := frz_blk c1
  gi_wp2
  rw [HF.out]
  refine ⟨trivial, CallsIn.mono (callsIn_wide.2 (HMK.out W HP0.out)) ?_⟩
  rintro e W2 ⟨⟨gs, cap, rfl, hcap, hcm, hge, xs⟩, hE2⟩
  have hP2 := HP0.out.below hE2
  replace c1 := hP2.box
  have HP2 := Lib.hid hP2; have HE2 := Lib.hid hE2; have XS := Lib.hid xs
  clear q1c q1f xs hE2 hP2
  have q1c := cell_blk c1
  have q1f := frz_blk c1
  gi_wp2
  rw [HF.out]
  refine ⟨trivial, CallsIn.mono (callsIn_wide.2 (HLD.out W2 HP2.out 0 (by omega) (by omega))) ?_⟩
  rintro e W3 ⟨rfl, hE3⟩
  have hP3 := HP2.out.below hE3
  have HE3 := Lib.hid (ext_trans HE2.out hE3); have XS3 := Lib.hid (Ext2.blk hE3 XS.out); have HP3 := Lib.hid hP3
  have hlv : about N 3 0 = about N 3 ((0 : Nat) : Int) := rfl
  rw [hlv]
  obtain ⟨v0, hv0⟩ : ∃ v, v = about N 3 ((0 : Nat) : Int) := ⟨_, rfl⟩
  rw [← hv0]
  have HV0 := Lib.hid hv0
  clear q1c q1f c1 hE3 hP3 XS HP2 HE2 hlv hv0
  gi_wp2
  refine wpIn_name ?_
  intro W4 hw4
  obtain ⟨np, hnp⟩ : ∃ n, n = W3.heap.size := ⟨_, rfl⟩
  have x4 : W4.heap[np]? = some (Obj.cells #[.int .i64 (Piece.mk 0 0 v0).from_, .int .i64 (Piece.mk 0 0 v0).until_, .bool (Piece.mk 0 0 v0).leader] 112) := by rw [hw4, hnp]; exact blk_new _ _
  have hE4 : Ext2 W3 W4 := by rw [hw4]; exact below_alloc' _ _
  have hs4 : W4.heap.size = np + 1 := by rw [hw4, hnp]; simp
  have hgp : gs < np := by rw [hnp]; exact blk_lt XS3.out
  have hWp : W.heap.size ≤ np := by rw [hnp]; exact HE3.out.size
  have XS4 := Lib.hid (Ext2.blk hE4 XS3.out); have HP4 := Lib.hid (HP3.out.below hE4); have X4 := Lib.hid x4
  have HI4 := Lib.hid (H0.out W4 (ext_trans HE3.out hE4))
  rw [← hnp]
  rw [hs4] at HI4
  have HS4 : Hid (np + 1 ≤ W4.heap.size) := Lib.hid (by omega)
  clear hw4 hnp hE4 x4 XS3 HP3 HE3 hs4
  gi_wp2
  gi_loopw [5] (fun v wr => ∃ (f : Nat) (Y : List Piece) (p : Piece), v = .int .i64 (f : Int) ∧ 1 ≤ f ∧ f ≤ F ∧ pieceK N f = Y ++ [p] ∧ wr.heap[np]? = some (Obj.cells #[.int .i64 p.from_, .int .i64 p.until_, .bool p.leader] 112) ∧ wr.heap[gs]? = some (.cells (boolL F fun i => about N 1 (i : Int)).toArray 4 (0, 0)) ∧ PicAt bx T t N ns B g F wr ∧ np + 1 ≤ wr.heap.size ∧ I (np + 1) Y.length wr) (fun v _ => F - (intOf v).toNat)
  case atStart => exact ⟨1, [], ⟨0, 0, v0⟩, rfl, by omega, by omega, by rw [pieceK_one, HV0.out]; rfl, X4.out, XS4.out, HP4.out, HS4.out, HI4.out⟩
  case round =>
    clear X4 XS4 HP4 HS4 HI4
    obtain ⟨f, Y, p, rfl, hf1, hfF, hY, xp, xs, hP, hsz, hi⟩ := hrel
    have HYY := Lib.hid hY; have XS := Lib.hid xs; have HP := Lib.hid hP; have HII := Lib.hid hi; have XP := Lib.hid xp; have HSZ := Lib.hid hsz
    have c1 := hP.box
    have x0 := hP.tab.tab.blk
    have hfr := hP.tab.fr
    have HFR := Lib.hid hfr
    rw [hfr] at x0
    have h0 : (0 : Int) ≤ (f : Int) := by omega
    clear hY xs hP hi xp hsz hfr
    have q1c := cell_blk c1
    have q1f := frz_blk c1
    have q0c := cell_blk x0
    have q0f := frz_blk x0
    by_cases hlt : f < F
    · have h1 : (f : Int) < (F : Int) := by omega
      have hd1 : decide ((f : Int) < (F : Int)) = true := decide_eq_true h1
      have w2' : IntKind.i64.wrap ((f : Int) + 1) = (f : Int) + 1 := IntWalk.i64_in _ (by omega)
      gi_wp2
      rw [HF.out]
      refine ⟨trivial, CallsIn.mono (callsIn_wide.2 (HLD.out wr HP.out (f : Int) h0 h1)) ?_⟩
      rintro e W5 ⟨rfl, hE5⟩
      have HP5 := Lib.hid (HP.out.below hE5)
      have XP5 := Lib.hid (Ext2.blk hE5 XP.out); have XS5 := Lib.hid (Ext2.blk hE5 XS.out)
      have hi5 := HI.out _ _ _ _ HII.out (Sb.ext hE5 (by have := HSZ.out; omega))
      have HI5 := Lib.hid hi5
      have HZ5 : Hid (np + 1 ≤ W5.heap.size) := Lib.hid (Nat.le_trans HSZ.out hE5.size)
      have xp := XP5.out
      have xs := XS5.out
      have hsc : W5.cell? ⟨gs, f, none⟩ = some (.bool (about N 1 (f : Int))) := by rw [cell_blk xs, List.getElem?_toArray, boolL_at hlt]
      have hsuc := pieceK_succ HYY.out
      have hyl := fun hn => pieceK_yield (N := F) HYY.out hn (by omega)
      obtain ⟨pf, pu, pl⟩ := p
      dsimp only at hsuc hyl XP5 xp
      obtain ⟨v, hv⟩ : ∃ v, v = about N 3 (f : Int) := ⟨_, rfl⟩
      obtain ⟨sv, hsv⟩ : ∃ v, v = about N 1 (f : Int) := ⟨_, rfl⟩
      rw [← hv, ← hsv] at hsuc hyl; rw [← hsv] at hsc; rw [← hv]
      have HSUC := Lib.hid hsuc; have HYL := Lib.hid hyl
      clear q1c q1f q0c q0f c1 x0 hE5 hi5 XS HP HII XP HSZ hsuc hyl hv hsv xs
      have qpc := cell_blk xp
      have qpf := frz_blk xp
      clear xp
      by_cases hc : pl = v ∧ (v = true ∨ sv = false)
      · have hs2 := HSUC.out
        rw [if_pos hc] at hs2
        have HS2 := Lib.hid hs2
        clear hs2 HYL HSUC
        have key : (v = true ∧ pl = true) ∨ (v = false ∧ pl = false ∧ sv = false) := by
          obtain ⟨a, b|b⟩ := hc
          · exact .inl ⟨b, by rw [a, b]⟩
          · cases v with
            | true => exact .inl ⟨rfl, a⟩
            | false => exact .inr ⟨rfl, a, b⟩
        clear hc
        rcases key with ⟨rfl, rfl⟩ | ⟨rfl, rfl, rfl⟩
        all_goals gi_wp2
        all_goals go_roundw
        all_goals first | exact ⟨f + 1, Y, ⟨pf, (f : Int), _⟩, by go_num, by omega, by omega, HS2.out, Eq.trans (blk_set XP5.out 1 _) rfl, blk_set_ne XS5.out (by omega), HP0.out.above HP5.out (below_set (Below.refl _ _) hWp), by rw [World.size_setCell]; exact HZ5.out, HI.out _ _ _ _ HI5.out (Sb.set hWp (by omega) _)⟩ | (simp [intOf]; omega)
      · have hs2 := HSUC.out
        rw [if_neg hc] at hs2
        have hy2 := HYL.out hc
        rw [← HM.out] at hy2
        have HS2 := Lib.hid hs2; have HY2 := Lib.hid hy2
        clear hs2 hy2 HYL HSUC
        have key : (v = true ∧ pl = false) ∨ (v = false ∧ pl = true) ∨ (v = false ∧ pl = false ∧ sv = true) := by
          revert hc; cases v <;> cases pl <;> cases sv <;> simp
        clear hc
        obtain ⟨fn, tmps, assign, body, hy, hR⟩ := HY.out (np + 1) Y.length W5 (by have := HY2.out.2; omega) (by omega) HZ5.out HI5.out
        rw [HY2.out.1] at hy
        dsimp only at hy
        have HR := Lib.hid hR; clear hR
        have tail : ∀ (W6 : World), Bw A (ts (np + 1)) W5 W6 → I (np + 1) (Y.length + 1) W6 → W6.heap[np]? = some (Obj.cells #[.int .i64 (Piece.mk pf pu pl).from_, .int .i64 (Piece.mk pf pu pl).until_, .bool (Piece.mk pf pu pl).leader] 112) ∧ W6.heap[gs]? = some (.cells (boolL F fun i => about N 1 (i : Int)).toArray 4 (0, 0)) ∧ PicAt bx T t N ns B g F W6 ∧ np + 1 ≤ W6.heap.size := fun W6 hB hI6 => ⟨hB.blk XP5.out (HTS.out _ _ _ hWp (by omega)), hB.blk XS5.out (HTS.out _ _ _ hge (by omega)), HPK.out _ _ _ HP5.out hB, Nat.le_trans HZ5.out hB.bel.size⟩
        have HTL := Lib.hid tail
        clear tail
        have hkY : Y.length < M := by have := HY2.out.2; omega
        have fin : ∀ (W6 : World) (v : Bool), W6.heap[np]? = some (Obj.cells #[.int .i64 (Piece.mk pf pu pl).from_, .int .i64 (Piece.mk pf pu pl).until_, .bool (Piece.mk pf pu pl).leader] 112) → W6.heap[gs]? = some (.cells (boolL F fun i => about N 1 (i : Int)).toArray 4 (0, 0)) → PicAt bx T t N ns B g F W6 → np + 1 ≤ W6.heap.size → I (np + 1) (Y.length + 1) W6 → pieceK N (f + 1) = Y ++ [⟨pf, pu, pl⟩] ++ [⟨(f : Int), (f : Int), v⟩] → ∃ (f' : Nat) (Y' : List Piece) (p : Piece), Value.int .i64 ((f : Int) + 1) = .int .i64 (f' : Int) ∧ 1 ≤ f' ∧ f' ≤ F ∧ pieceK N f' = Y' ++ [p] ∧ ((((W6.setCell ⟨np, 0, none⟩ (.int .i64 (f : Int))).setCell ⟨np, 1, none⟩ (.int .i64 0)).setCell ⟨np, 2, none⟩ (.bool v)).setCell ⟨np, 1, none⟩ (.int .i64 (f : Int))).heap[np]? = some (Obj.cells #[.int .i64 p.from_, .int .i64 p.until_, .bool p.leader] 112) ∧ ((((W6.setCell ⟨np, 0, none⟩ (.int .i64 (f : Int))).setCell ⟨np, 1, none⟩ (.int .i64 0)).setCell ⟨np, 2, none⟩ (.bool v)).setCell ⟨np, 1, none⟩ (.int .i64 (f : Int))).heap[gs]? = some (.cells (boolL F fun i => about N 1 (i : Int)).toArray 4 (0, 0)) ∧ PicAt bx T t N ns B g F ((((W6.setCell ⟨np, 0, none⟩ (.int .i64 (f : Int))).setCell ⟨np, 1, none⟩ (.int .i64 0)).setCell ⟨np, 2, none⟩ (.bool v)).setCell ⟨np, 1, none⟩ (.int .i64 (f : Int))) ∧ np + 1 ≤ ((((W6.setCell ⟨np, 0, none⟩ (.int .i64 (f : Int))).setCell ⟨np, 1, none⟩ (.int .i64 0)).setCell ⟨np, 2, none⟩ (.bool v)).setCell ⟨np, 1, none⟩ (.int .i64 (f : Int))).heap.size ∧ I (np + 1) Y'.length ((((W6.setCell ⟨np, 0, none⟩ (.int .i64 (f : Int))).setCell ⟨np, 1, none⟩ (.int .i64 0)).setCell ⟨np, 2, none⟩ (.bool v)).setCell ⟨np, 1, none⟩ (.int .i64 (f : Int))) := fun W6 v g1 g2 g3 g4 g5 g6 =>
          ⟨f + 1, Y ++ [⟨pf, pu, pl⟩], ⟨(f : Int), (f : Int), v⟩, by go_num, by omega, by omega, g6, Eq.trans (blk_set (blk_set (blk_set (blk_set g1 0 _) 1 _) 2 _) 1 _) rfl, blk_set_ne (blk_set_ne (blk_set_ne (blk_set_ne g2 (by omega)) (by omega)) (by omega)) (by omega), HP0.out.above g3 (below_set (below_set (below_set (below_set (Below.refl _ _) hWp) hWp) hWp) hWp), by simp only [World.size_setCell]; exact g4, by
            rw [List.length_append, List.length_singleton]
            exact HI.out _ _ _ _ g5 ((((Sb.set hWp (by omega) _).trans (Sb.set hWp (by omega) _)).trans (Sb.set hWp (by omega) _)).trans (Sb.set hWp (by omega) _))⟩
        have HFIN := Lib.hid fin
        clear fin
        rcases key with ⟨rfl, rfl⟩ | ⟨rfl, rfl⟩ | ⟨rfl, rfl, rfl⟩
        all_goals gi_wp2
        all_goals refine HR.out.mono ?_
        all_goals rintro e W6 (⟨rfl, hB6, hI6⟩ | ⟨rfl, hK6, hX⟩)
        all_goals (first | (have HX := Lib.hid hX; clear hX hK6 hy; gi_wp2; refine bodyPost_ret (results_none rfl _ _ _) rfl ?_; exact ⟨⟨_, rfl⟩, np + 1, by omega, .inr ⟨Y.length, hkY, HX.out⟩⟩) | (obtain ⟨g1, g2, g3, g4⟩ := HTL.out W6 hB6 hI6; have G2 := Lib.hid g2; have G3 := Lib.hid g3; have G4 := Lib.hid g4; have G1 := Lib.hid g1; have HI6 := Lib.hid hI6; clear hB6 hI6 g2 g3 g4 hy qpc qpf; have qpc := cell_blk g1; have qpf := frz_blk g1; clear g1; gi_wp2; go_roundw))
        all_goals first | exact HFIN.out W6 _ G1.out G2.out G3.out G4.out HI6.out HS2.out | (simp [intOf]; omega)
    · obtain rfl : F = f := by omega
      have hkY : Y.length < M := by rw [HM.out, HYY.out]; simp
      have hl1 : M = Y.length + 1 := by rw [HM.out, HYY.out]; simp
      obtain ⟨fn, tmps, assign, body, hy, hR⟩ := HY.out (np + 1) Y.length wr hkY (by omega) HSZ.out HII.out
      have hpl : pcD (pieceK N F) Y.length = p := by rw [HYY.out]; exact pcD_last Y p
      rw [hpl] at hy
      have HR := Lib.hid hR; clear hR
      have hd1 : decide ((F : Int) < (F : Int)) = false := decide_eq_false (by omega)
      have hd2 : ¬ ((F : Int) < (F : Int)) := by omega
      have xp := XP.out
      have HL1 := Lib.hid hl1
      have qpc := cell_blk xp
      have qpf := frz_blk xp
      clear xp hl1 hpl
      gi_wp2
      refine HR.out.mono ?_
      rintro e W6 (⟨rfl, hB6, hI6⟩ | ⟨rfl, hK6, hX⟩)
      · have HI6 := Lib.hid hI6
        clear hB6 hI6 hy
        gi_wp2
        go_end0
        exact ⟨⟨_, rfl⟩, np + 1, by omega, .inl (by rw [HL1.out]; exact HI6.out)⟩
      · have HX := Lib.hid hX
        clear hX hK6 hy
        gi_wp2
        go_end0
        exact ⟨⟨_, rfl⟩, np + 1, by omega, .inr ⟨Y.length, hkY, HX.out⟩⟩
theorem pieces_iter {T : Task} {t : TSl} {N : List Note} {ns : Sl} {B g F bx A : Nat} : IterB Tryz.prog 61 #[.pointer (some ⟨bx, 0, none⟩)] (pieceK N F).length (fun k => #[.agg #[.int .i64 (pcD (pieceK N F) k).from_, .int .i64 (pcD (pieceK N F) k).until_, .bool (pcD (pieceK N F) k).leader]]) A (PicAt bx T t N ns B g F) :=
  fun ts l I X W hp0 hpk hts h0 hI _ hY => callsIn_wide.2 (callsIn_wide.1 (pieces_in Fence.wide rfl rfl rfl ts l I X W hp0 hpk hts h0 hI hY))
theorem pieces_any (B : Nat) (w : World) : Calls Tryz.prog 40 #[.pointer (some ⟨B, 0, none⟩)] w fun e w' => e = .returned (.func (.func 61) #[] #[.pointer (some ⟨w.heap.size, 0, none⟩)]) ∧ w' = w.alloc (.cells #[.pointer (some ⟨B, 0, none⟩)] 84 (0, 0)) := by
  go_enter Tryz.func40, Tryz.ntmps40
  go_wp2
  go_ret
  exact ⟨rfl, rfl⟩
end Go.Proofs.YtapeakbngligaaaGreatDoor
