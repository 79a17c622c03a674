/-
  Groups in memory; (*bench.table).place.
-/
import Derived.Test.YtapeakbngligaaaGreatDoorBCls
import Derived.Test.YtapeakbngligaaaGreatDoorBSome
namespace Go.Proofs.YtapeakbngligaaaGreatDoor.D
def grD (l : List Grp) (i : Nat) : Grp := l.getD i default
def placeS (f : Int) (s : Span) (g : Grp) : Span := ⟨s.lo + (partG g fun x => decide (x.frame ≤ f)).lo, s.hi + (partG g fun x => decide (x.frame ≤ f)).hi⟩
theorem placeS_at (f : Int) (s : Span) (g : Grp) : placeS f s g = ⟨s.lo + (partG g fun x => decide (x.frame ≤ f)).lo, s.hi + (partG g fun x => decide (x.frame ≤ f)).hi⟩ := rfl
theorem placeG_fold (l : List Note) (all : List Grp) (f : Nat) : placeG l all f = all.foldl (placeS f) ⟨picB l f, picB l f⟩ := rfl
theorem picB_upto (l : List Note) : ∀ f : Nat, 0 ≤ picB l f ∧ picB l f ≤ f
  | 0 => by simp [picB]
  | f + 1 => by
    have := picB_upto l f
    rw [picB]; split <;> omega
end Go.Proofs.YtapeakbngligaaaGreatDoor.D
namespace Go.Proofs.YtapeakbngligaaaGreatDoor
open Go.RowKit D
set_option linter.unusedVariables false
set_option linter.unusedSimpArgs false
attribute [local go_sem high] run_minI run_maxI
attribute [local go_sem] upon2 cls_cell cls_frozen forall_const exists_eq_left'
attribute [local go_sem] FirstUpon atBlk_cell
def GrpOk (g : Grp) : Prop := GrpIs g ∧ (∀ x ∈ g.gaps, GapIn x) ∧ g.gaps.length ≤ 200001
theorem part_in {g : Grp} (h : GrpOk g) (p : Gap → Bool) : (-100000000000 ≤ (partG g p).lo ∧ (partG g p).lo ≤ 100000000000) ∧ (-100000000000 ≤ (partG g p).hi ∧ (partG g p).hi ≤ 100000000000) := by
  obtain ⟨h1, h2, h3⟩ := h
  have a : ∀ q : Gap → Bool, (0 ≤ (endsS (g.gaps.filter q)).lo ∧ (endsS (g.gaps.filter q)).lo ≤ 80000400000) ∧ (0 ≤ (endsS (g.gaps.filter q)).hi ∧ (endsS (g.gaps.filter q)).hi ≤ 80000400000) := fun q =>
    ends_in' (fun x hx => h2 x (List.mem_filter.1 hx).1) (Nat.le_trans (List.length_filter_le _ _) h3)
  have b := a p; have c := a fun x => !p x
  unfold GrpIs at h1
  unfold partG comS
  dsimp only
  omega
structure GrpsS (w : World) (s : Sl) (hs : Nat → Sl) (l : List Grp) : Prop where
  row : RowS w s 3 l.length (fun i j => match j with | 0 => .slice (hs i).a (grD l i).gaps.length (hs i).cap | 1 => .int .i64 (grD l i).is.lo | _ => .int .i64 (grD l i).is.hi)
  each : ∀ i, i < l.length → GapsS w (hs i) (grD l i).gaps
  ok : ∀ i, i < l.length → GrpOk (grD l i)
theorem GrpsS.below {w w' : World} {s : Sl} {hs : Nat → Sl} {l : List Grp} (h : GrpsS w s hs l) (hb : Below w.heap.size w w') : GrpsS w' s hs l := ⟨h.row.below hb, fun i hi => (h.each i hi).below hb, h.ok⟩
theorem GrpsS.cells {w : World} {s : Sl} {hs : Nat → Sl} {l : List Grp} (h : GrpsS w s hs l) {i : Nat} (hi : i < l.length) : ∃ b off, s.a = some ⟨b, off, none⟩ ∧ w.cell? ⟨b, off + i * 3, none⟩ = some (.slice (hs i).a (grD l i).gaps.length (hs i).cap) ∧ w.cell? ⟨b, off + i * 3 + 1, none⟩ = some (.int .i64 (grD l i).is.lo) ∧ w.cell? ⟨b, off + i * 3 + 2, none⟩ = some (.int .i64 (grD l i).is.hi) := by
  obtain ⟨b, off, ha, h⟩ := h.row.at (by omega) hi
  exact ⟨b, off, ha, h 0 (by omega), h 1 (by omega), h 2 (by omega)⟩
set_option maxRecDepth 100000 in
set_option maxHeartbeats 8000000 in
theorem place_any {T : Task} {t : TSl} {N : List Note} {ns : Sl} {B g F f : Nat} {s : Sl} {hs : Nat → Sl} {l : List Grp} {w : World} (hT : Tab w T t N ns B g F) (hG : GrpsS w s hs l) (hf : f ≤ F) (hl : l.length ≤ 100) :
    Calls Tryz.prog 32 #[.pointer (some ⟨B, 0, none⟩), .slice s.a l.length s.cap, .int .i64 (f : Int)] w fun e w' => e = .returned (.agg #[.int .i64 (placeG N l f).lo, .int .i64 (placeG N l f).hi]) ∧ Below w.heap.size w w' := by
  have HG := Lib.hid hG
  have hle := hT.le
  have hpb := picB_upto N f
  have x0 := hT.tab.blk
  have c0 : w.cell? ⟨g, f, none⟩ = some (.int .i64 (picB N f)) := by rw [cell_blk hT.pic, List.getElem?_toArray, intL_at (by omega)]
  have hcp := hG.row.le; have hcm := hG.row.max
  obtain ⟨V, hV⟩ : ∃ V, V = placeG N l f := ⟨_, rfl⟩
  rw [← hV]
  obtain ⟨P, hP⟩ : ∃ P, P = picB N f := ⟨_, rfl⟩
  rw [← hP] at hpb c0
  have hV2 : V = (l.take l.length).foldl (placeS f) ⟨P, P⟩ := by rw [hV, placeG_fold, List.take_length, hP]
  obtain ⟨m, hm⟩ : ∃ m, m = l.length := ⟨_, rfl⟩
  rw [← hm] at hcp hl hV2 ⊢
  have HM := Lib.hid hm; have HV := Lib.hid hV2
  obtain ⟨sa, sc⟩ := s
  dsimp only at hcp hcm
  have X0 := Lib.hid x0; have C0 := Lib.hid c0
  clear hT hG hV hP hm hV2 x0 c0
  go_enter Tryz.func32, Tryz.ntmps32
  go_upto_region 1 with (fail)
  refine wp_name ?_
  intro w3 hw3
  obtain ⟨n5, hn5⟩ : ∃ n, n = w.heap.size := ⟨_, rfl⟩
  obtain ⟨n6, hn6⟩ : ∃ n, n = n5 + 1 := ⟨_, rfl⟩
  have x5 : w3.heap[n5]? = some (.cells #[.int .i64 (f : Int)] 3 (0, 0)) := by rw [hw3, hn5]; exact blk_alloc (blk_new _ _) _
  have x6 : w3.heap[n6]? = some (Obj.cells #[.int .i64 (0), .int .i64 (0)] 23) := by rw [hw3, hn6, hn5]; exact blk_new' _ _ (by simp)
  have hE3 : Ext2 w w3 := by rw [hw3]; exact ext_trans (below_alloc' _ _) (below_alloc' _ _)
  have lw : w.heap.size ≤ n5 := by omega
  have l56 : n5 < n6 := by omega
  rw [← hn5, ← hn6]
  have HE3 := Lib.hid hE3; have X5 := Lib.hid x5; have X6 := Lib.hid x6
  have x0 := Ext2.blk hE3 X0.out
  have c0 := ext_cell' hE3 C0.out
  clear hw3 hn5 hn6 hE3 x6
  have i0 : (0 : Int) ≤ (f : Int) := by omega
  have i1 : (f : Int) < (F : Int) + 1 := by omega
  have i2 : decide ((0 : Int) ≤ (f : Int)) = true := decide_eq_true i0
  have i3 : decide ((f : Int) < (F : Int) + 1) = true := decide_eq_true i1
  have q0c := cell_blk x0
  have q0f := frz_blk x0
  have q5c := cell_blk x5
  have q5f := frz_blk x5
  refine region_ev [] [0, 1, 2, 3, 4, 5, 6, 7, 8, 9, 10, 11, 12, 13, 14] [(15, 7, some 16)] [] (by kernel_rfl) (by kernel_rfl) (by intro c a d v w h; cases d <;> exact h) ?_
  simp only [picks, List.drop_succ_cons, List.drop_zero]
  repeat (refine wpQ0_step (fun K hK => ?_); go_simp; (refine hK _ ?_; clear hK K))
  refine wpQ0_nil ?_
  repeat ((with_reducible refine wpQ2_step (fun K hK => ?_)); go_simp; first | ((with_reducible refine hK _ ?_); clear hK K) | (apply Exists.intro; refine ⟨fun x => ?_, hK _ ?_⟩; (fail); clear hK K))
  refine wpQ2_nil ?_
  refine Events.fill1 (fun b => .pointer (some ⟨b, 0, none⟩)) (Obj.cells #[.int .i64 0, .int .i64 0] 126 (0, 0)) (Obj.cells #[.int .i64 P, .int .i64 P] 126 (0, 0)) ⟨_, rfl, rfl, rfl, fun W => by kernel_rfl⟩ ⟨_, rfl, rfl, rfl, fun b W hb => ?_⟩ fun n7 w7 hn7 hg7 nn7 => ?_
  · have hbc := cell_blk hb; have hbf := frz_blk hb; go_simp; exact turn_two hb _ _
  simp only [picks, List.drop_succ_cons, List.drop_zero]
  have lt6 := blk_lt X6.out
  have X57 := Lib.hid (Ext2.blk hg7 X5.out); have X67 := Lib.hid (Ext2.blk hg7 X6.out); have X7 := Lib.hid nn7
  have HE7 := Lib.hid (ext_trans HE3.out hg7)
  have l67 : n6 < n7 := by omega
  clear q0c q0f q5c q5f x0 x5 c0 X5 X6 HE3 hg7 i0 i1 i2 i3 nn7 lt6
  go_wp2_with (fail)
  go_loopw [29] (fun i wr => ∃ (k : Nat) (S : Span), i = .int .i64 k ∧ k ≤ m ∧ S = (l.take k).foldl (placeS (f : Int)) ⟨P, P⟩ ∧ ((-100000000000 * (k : Int) ≤ S.lo ∧ S.lo ≤ 200000 + 100000000000 * (k : Int)) ∧ (-100000000000 * (k : Int) ≤ S.hi ∧ S.hi ≤ 200000 + 100000000000 * (k : Int))) ∧ Ext2 w wr ∧ wr.heap[n5]? = some (.cells #[.int .i64 (f : Int)] 3 (0, 0)) ∧ wr.heap[n6]? = some (Obj.cells #[.int .i64 (0), .int .i64 (0)] 23) ∧ wr.heap[n7]? = some (.cells #[.int .i64 S.lo, .int .i64 S.hi] 126 (0, 0))) (fun i _ => m - (intOf i).toNat)
  case atStart => exact ⟨0, ⟨P, P⟩, rfl, by omega, rfl, by dsimp only; omega, HE7.out, X57.out, X67.out, X7.out⟩
  case round =>
    clear HE7 X57 X67 X7
    obtain ⟨k, S, rfl, hk, hS, hb, hE, x5, x6, x7⟩ := hrel
    have HS := Lib.hid hS; have HE := Lib.hid hE; have X5 := Lib.hid x5; have X6 := Lib.hid x6; have X7 := Lib.hid x7
    clear hS hE x5 x6 x7
    by_cases hlt : k < m
    · go_light
      have hkl : k < l.length := by rw [← HM.out]; exact hlt
      obtain ⟨b, off, hsa, c0, c1, c2⟩ := (HG.out.below HE.out).cells hkl
      have hea := (HG.out.below HE.out).each k hkl
      have hok := HG.out.ok k hkl
      dsimp only at hsa
      subst hsa
      have hfo := foldl_take (f := placeS (f : Int)) (s := ⟨P, P⟩) (d := default) hkl
      rw [← HS.out, show l.getD k default = grD l k from rfl] at hfo
      obtain ⟨q, hq⟩ : ∃ q, q = grD l k := ⟨_, rfl⟩
      obtain ⟨⟨ha, hc⟩, hh⟩ : ∃ h, h = hs k := ⟨_, rfl⟩
      rw [← hq] at c0 c1 c2 hea hok hfo; rw [← hh] at c0 hea
      have hin := part_in hok fun x => decide (x.frame ≤ (f : Int))
      have HSM := Lib.hid fun (W : World) (hW : Ext2 wr W) => some_any (fn := 54) (lb := #[.pointer (some ⟨n5, 0, none⟩)]) (p := fun x => decide (x.frame ≤ (f : Int))) (hea.below hW) hok.2.1 hok.2.2 hok.1 (enters_of Tryz.func54 (by kernel_rfl) rfl) (fun i W2 _ h2 => upto_any (Ext2.blk (ext_trans hW h2) X5.out))
      rw [placeS_at] at hfo
      obtain ⟨R, hR⟩ : ∃ R, R = partG q fun x => decide (x.frame ≤ (f : Int)) := ⟨_, rfl⟩
      rw [← hR] at hin HSM hfo
      have HFO := Lib.hid hfo
      obtain ⟨n, hn⟩ : ∃ n, n = q.gaps.length := ⟨_, rfl⟩
      rw [← hn] at c0 HSM
      dsimp only at c0 HSM
      have h0 : (0 : Int) ≤ (k : Int) := by omega
      have h1 : (k : Int) < (m : Int) := by omega
      have w2' : IntKind.i64.wrap ((k : Int) + 1) = (k : Int) + 1 := IntWalk.i64_in _ (by omega)
      clear hfo hq hh hea hok hR hn hkl
      go_upto_region 5 with (fail)
      clear c0 c1 c2
      refine wp_name ?_
      intro w5 hw5
      obtain ⟨n9, hn9⟩ : ∃ n, n = wr.heap.size := ⟨_, rfl⟩
      have x9 : w5.heap[n9]? = some (.cells #[.slice ha n hc, .int .i64 q.is.lo, .int .i64 q.is.hi] 91 (0, 0)) := by rw [hw5, hn9]; exact blk_new _ _
      have hE5 : Ext2 wr w5 := by rw [hw5]; exact below_alloc' _ _
      have HE5 := Lib.hid hE5
      rw [← hn9]
      clear hw5 hn9 hE5
      have q9c := cell_blk x9
      have q9f := frz_blk x9
      clear x9
      go_wp2_with (fail)
      refine (HSM.out w5 HE5.out).mono ?_
      rintro e w6 ⟨rfl, hE6⟩
      have HE6 := Lib.hid (ext_trans HE5.out hE6)
      clear q9c q9f hE6
      go_upto_region 6 with (fail)
      refine wp_name ?_
      intro w8 hw8
      obtain ⟨n10, hn10⟩ : ∃ n, n = w6.heap.size := ⟨_, rfl⟩
      have x10 : w8.heap[n10]? = some (Obj.cells #[.int .i64 R.lo, .int .i64 R.hi] 23) := by rw [hw8, hn10]; exact blk_new _ _
      have hE8 : Ext2 w6 w8 := by rw [hw8]; exact below_alloc' _ _
      have hE8w := ext_trans HE6.out hE8
      have HE8 := Lib.hid hE8w
      have HAD := Lib.hid (add_any (s := R) (Ext2.blk hE8w X7.out) (by omega) (by omega))
      rw [← hn10]
      clear hw8 hn10 hE8 hE8w
      have q10c := cell_blk x10
      have q10f := frz_blk x10
      clear x10
      go_wp2_with (fail)
      refine HAD.out.mono ?_
      rintro e w9 ⟨rfl, x79, hB9⟩
      have X79 := Lib.hid x79; have HB9 := Lib.hid hB9
      clear q10c q10f x79 hB9
      go_wp2_with (fail)
      go_roundw
      case rel =>
        have hk9 : ∀ (i : Nat) (o : Obj), i ≠ n7 → wr.heap[i]? = some o → w9.heap[i]? = some o := fun i o hi h => (HB9.out.block i (blk_lt (Ext2.blk HE8.out h)) hi).trans (Ext2.blk HE8.out h)
        have hEw := ext_trans HE.out HE8.out
        refine ⟨k + 1, ⟨S.lo + R.lo, S.hi + R.hi⟩, by go_num, by omega, by rw [HFO.out], by dsimp only; omega, hEw.trans (HB9.out.below (by omega) hEw.size), hk9 _ _ (by omega) X5.out, hk9 _ _ (by omega) X6.out, X79.out⟩
      case measure => simp [intOf]; omega
    · obtain rfl : m = k := by omega
      have hVS : V = S := by rw [HV.out, HS.out]
      subst hVS
      have x7 := X7.out; have x6 := X6.out
      have q7c := cell_blk x7
      have q7f := frz_blk x7
      have q6c := cell_blk x6
      have q6f := frz_blk x6
      clear x7
      go_wp2_with (fail)
      have r1 : ((wr.setCell ⟨n6, 0, none⟩ (.int .i64 V.lo)).setCell ⟨n6, 1, none⟩ (.int .i64 V.hi)).heap[n6]? = some (Obj.cells #[.int .i64 V.lo, .int .i64 V.hi] 23) := Eq.trans (blk_set (blk_set x6 _ _) _ _) rfl
      refine bodyPost_ret (v := .agg #[.int .i64 V.lo, .int .i64 V.hi]) ?_ rfl ⟨rfl, below_set (below_set HE.out (by omega)) (by omega)⟩
      have zc := cell_blk r1
      have zf := frz_blk r1
      simp [results, Tryz.results32, go_sem, zc]
end Go.Proofs.YtapeakbngligaaaGreatDoor
