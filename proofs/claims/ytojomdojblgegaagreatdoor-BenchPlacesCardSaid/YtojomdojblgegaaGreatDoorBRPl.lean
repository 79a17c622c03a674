/-
  ref.place.
-/
import Derived.Test.YtojomdojblgegaaGreatDoorBROp
namespace Go.Proofs.YtojomdojblgegaaGreatDoor.D
def pfI (gs : List Gap) (f : Nat) (i : Nat) : Bool := decide ((gpD gs i).frame ≤ (f : Int))
theorem part_ix (gs : List Gap) (X : IxG) (f : Nat) : ((toG gs X).gaps.filter fun x => decide (x.frame ≤ (f : Int))) = (X.1.filter (pfI gs f)).map (gpD gs) ∧ ((toG gs X).gaps.filter fun x => !decide (x.frame ≤ (f : Int))) = (X.1.filter fun i => !pfI gs f i).map (gpD gs) := by
  unfold toG
  simp only [List.filter_map]
  exact ⟨rfl, rfl⟩
theorem filt_take {l : List Nat} {p : Nat → Bool} {k : Nat} (hk : k < l.length) : (l.take (k + 1)).filter p = if p (l.getD k 0) then (l.take k).filter p ++ [l.getD k 0] else (l.take k).filter p := by
  have e : l.getD k 0 = l[k] := by rw [List.getD_eq_getElem?_getD, List.getElem?_eq_getElem hk]; rfl
  rw [List.take_succ_eq_append_getElem hk, List.filter_append, e]
  by_cases h : p l[k] = true
  · simp [h]
  · simp [h]
/-- The place behind k sums. -/
def plK (gs : List Gap) (L : List IxG) (N : List Note) (f k : Nat) : Span := (L.take k).foldl (fun s X => ⟨s.lo + (partG (toG gs X) fun x => decide (x.frame ≤ (f : Int))).lo, s.hi + (partG (toG gs X) fun x => decide (x.frame ≤ (f : Int))).hi⟩) ⟨picB N f, picB N f⟩
theorem plK_succ {gs : List Gap} {L : List IxG} {N : List Note} {f k : Nat} (hk : k < L.length) : plK gs L N f (k + 1) = ⟨(plK gs L N f k).lo + (partG (toG gs (L.getD k ([], ⟨0, 0⟩))) fun x => decide (x.frame ≤ (f : Int))).lo, (plK gs L N f k).hi + (partG (toG gs (L.getD k ([], ⟨0, 0⟩))) fun x => decide (x.frame ≤ (f : Int))).hi⟩ := foldl_take hk
theorem plK_all (gs : List Gap) (L : List IxG) (N : List Note) (f : Nat) : plK gs L N f L.length = placeG N (L.map (toG gs)) f := by
  unfold plK placeG
  rw [List.take_length, List.foldl_map]
end Go.Proofs.YtojomdojblgegaaGreatDoor.D
namespace Go.Proofs.YtojomdojblgegaaGreatDoor
open Go.RowKit D
set_option linter.unusedVariables false
set_option linter.unusedSimpArgs false
attribute [local go_sem high] run_minI run_maxI
attribute [local go_sem] upon2 cls_cell cls_frozen forall_const exists_eq_left'
attribute [local go_sem] FirstUpon atBlk_cell
theorem ptR_part (gs : List Gap) (X : IxG) (f : Nat) : ptR gs X.2 (X.1.filter (pfI gs f)) (X.1.filter fun i => !pfI gs f i) = partG (toG gs X) fun x => decide (x.frame ≤ (f : Int)) := by
  unfold ptR partG
  rw [(part_ix gs X f).1, (part_ix gs X f).2]; rfl
theorem ptR_bd {gs : List Gap} {is : Span} {a b : List Nat} (hia : ∀ i ∈ a, i < gs.length) (hib : ∀ i ∈ b, i < gs.length) (hin : ∀ x ∈ gs, GapIn x) (hla : a.length ≤ 200001) (hlb : b.length ≤ 200001) (his : -100000000 ≤ is.lo ∧ is.lo ≤ 100000000 ∧ -100000000 ≤ is.hi ∧ is.hi ≤ 100000000) : -100000000000 ≤ (ptR gs is a b).lo ∧ (ptR gs is a b).lo ≤ 100000000000 ∧ -100000000000 ≤ (ptR gs is a b).hi ∧ (ptR gs is a b).hi ≤ 100000000000 := by
  have h1 := ends_bd hia hin hla; have h2 := ends_bd hib hin hlb
  unfold ptR comS
  simp only
  omega
/-- The blocks of place: the book, the result, what is summed up. -/
structure PlI (n2 n4 n6 : Nat) (bk : Array Value) (out : Span) (w W : World) : Prop where
  ext : Ext2 w W
  b2 : W.heap[n2]? = some (.cells bk 110 (0, 0))
  b4 : W.heap[n4]? = some (Obj.cells #[.int .i64 (0), .int .i64 (0)] 31)
  b6 : W.heap[n6]? = some (Obj.cells #[.int .i64 out.lo, .int .i64 out.hi] 31)
  lw : w.heap.size = n2
  l4 : n4 = n2 + 1
  l6 : n4 < n6
/-- Two lists of indices side by side. -/
structure TwoI (base : Nat) (A B : List Nat) (sv ov : Value) (W : World) : Prop where
  a : OwnR W base 3 1 sv A.length (ixC A)
  b : OwnR W base 3 1 ov B.length (ixC B)
  ap : Apart sv ov
section
variable {n2 n4 n6 base : Nat} {bk : Array Value} {out : Span} {w W W' : World} {A B : List Nat} {sv ov : Value}
theorem PlI.extW (h : PlI n2 n4 n6 bk out w W) (hE : Ext2 W W') : PlI n2 n4 n6 bk out w W' := ⟨ext_trans h.ext hE, Ext2.blk hE h.b2, Ext2.blk hE h.b4, Ext2.blk hE h.b6, h.lw, h.l4, h.l6⟩
theorem PlI.grown (h : PlI n2 n4 n6 bk out w W) {row : Option Nat} (hg : W.grownBy W' row) (hr : ∀ k, row = some k → n6 + 1 ≤ k) : PlI n2 n4 n6 bk out w W' := by
  have h1 := h.lw; have h2 := h.l4; have h3 := h.l6
  exact ⟨ext_grown h.ext hg fun k hk => by have := hr k hk; omega, blk_grown hg h.b2 (fun he => by have := hr _ he.symm; omega), blk_grown hg h.b4 (fun he => by have := hr _ he.symm; omega), blk_grown hg h.b6 (fun he => by have := hr _ he.symm; omega), h1, h2, h3⟩
theorem TwoI.ext (h : TwoI base A B sv ov W) (hE : Ext2 W W') : TwoI base A B sv ov W' := ⟨h.a.below hE, h.b.below hE, h.ap⟩
theorem twoI_nil : TwoI base [] [] (.slice none 0 0) (.slice none 0 0) W := ⟨own_nil _ _ _ _ _, own_nil _ _ _ _ _, Apart.nil _⟩
theorem TwoI.appA (h : TwoI base A B sv ov W) (hg : W.grownBy W' sv.ownBlock) {v' : Value} {x n : Nat} (hn : n = A.length) (hp : v'.ownBlock = sv.ownBlock ∨ v'.ownBlock = some W.heap.size) (hO : OwnR W' base 3 1 v' (n + 1) (upd (ixC A) n [.int .i64 (x : Int)])) : TwoI base (A ++ [x]) B v' ov W' := by
  subst hn
  exact ⟨by
    rw [List.length_append, List.length_singleton]
    exact OwnR.congr hO fun i j hi hj => ixC_snoc hi hj, kept_apart h.ap hg h.b, apart_new h.ap h.b hp⟩
theorem TwoI.appB (h : TwoI base A B sv ov W) (hg : W.grownBy W' ov.ownBlock) {v' : Value} {x n : Nat} (hn : n = B.length) (hp : v'.ownBlock = ov.ownBlock ∨ v'.ownBlock = some W.heap.size) (hO : OwnR W' base 3 1 v' (n + 1) (upd (ixC B) n [.int .i64 (x : Int)])) : TwoI base A (B ++ [x]) sv v' W' := by
  subst hn
  exact ⟨kept_apart h.ap.symm hg h.a, by
    rw [List.length_append, List.length_singleton]
    exact OwnR.congr hO fun i j hi hj => ixC_snoc hi hj, (apart_new h.ap.symm h.a hp).symm⟩
end
set_option maxRecDepth 100000 in
set_option maxHeartbeats 8000000 in
theorem placeR_any {N : List Note} {gs : List Gap} {L : List IxG} {K : List Strike} {R : List Int} {sn sg ss sk sw : Sl} {hs : Nat → Sl} {f : Nat} {w : World} (hB : BookS w N gs L K R sn sg ss sk sw hs) (hgi : (∀ x ∈ gs, GapIn x) ∧ gs.length ≤ 200001) (hso : ∀ x ∈ L, SumOk gs x) (hll : L.length ≤ 100) (hf : f ≤ 200000) :
    Calls Tryz.prog 56 #[.agg #[.slice sn.a N.length sn.cap, .slice sg.a gs.length sg.cap, .slice ss.a L.length ss.cap, .slice sk.a K.length sk.cap, .slice sw.a R.length sw.cap], .int .i64 (f : Int)] w fun e w' => e = .returned (.agg #[.int .i64 (placeG N (L.map (toG gs)) f).lo, .int .i64 (placeG N (L.map (toG gs)) f).hi]) ∧ Below w.heap.size w w' := by
  have hpi := fun (W : World) (hW : Ext2 w W) => pictureR_any (a := 0) (b := f) (RowS.below hB.n hW) (by omega) (by omega)
  have e0 : picB N f - picB N 0 = picB N f := by rw [show picB N 0 = 0 from rfl, Int.sub_zero]
  rw [e0] at hpi
  have HB := Lib.hid hB; have HGI := Lib.hid hgi; have HSO := Lib.hid hso
  have hp0 := picB_in N f
  obtain ⟨V, hV⟩ : ∃ V, V = placeG N (L.map (toG gs)) f := ⟨_, rfl⟩
  rw [← plK_all] at hV
  have HPS := Lib.hid fun k (hk : k < L.length) => plK_succ (gs := gs) (N := N) (f := f) hk
  have hP0 : plK gs L N f 0 = ⟨picB N f, picB N f⟩ := rfl
  have HP0 := Lib.hid hP0
  have HVQ : Hid (placeG N (L.map (toG gs)) f = V) := Lib.hid (by rw [hV, plK_all])
  rw [HVQ.out]
  obtain ⟨na, nc⟩ := sn
  obtain ⟨ga, gc⟩ := sg
  obtain ⟨la, lc⟩ := ss
  obtain ⟨ka, kc⟩ := sk
  obtain ⟨wa, wc⟩ := sw
  obtain ⟨nl, hnl⟩ : ∃ n, n = N.length := ⟨_, rfl⟩
  obtain ⟨gl, hgl⟩ : ∃ n, n = gs.length := ⟨_, rfl⟩
  obtain ⟨kl, hkl⟩ : ∃ n, n = K.length := ⟨_, rfl⟩
  obtain ⟨ll, hlln⟩ : ∃ n, n = L.length := ⟨_, rfl⟩
  obtain ⟨wl, hwl⟩ : ∃ n, n = R.length := ⟨_, rfl⟩
  rw [← hnl] at hpi ⊢; rw [← hgl, ← hkl, ← hlln, ← hwl]
  rw [← hlln] at hll hV
  have hls := hB.s.row.le; have hlm := hB.s.row.max
  have hgls := hB.g.le; have hglm := hB.g.max
  rw [← hlln] at hls; rw [← hgl] at hgls
  dsimp only at hpi hls hlm hgls hglm
  have HPI : Hid (∀ W, Ext2 w W → Calls Tryz.prog 89 #[.slice na nl nc, .int .i64 0, .int .i64 ((f : Int) - 1)] W fun e w' => e = .returned (.int .i64 (picB N f)) ∧ Below W.heap.size W w') := Lib.hid hpi; have HV := Lib.hid hV; have HGL := Lib.hid hgl; have HLL := Lib.hid hlln; have HP := Lib.hid hp0
  clear hpi e0 hB hgi hso hp0 hV hP0 hnl hgl hkl hlln hwl
  go_enter Tryz.func56, Tryz.ntmps56
  go_upto_region 1 with (fail)
  refine wp_name ?_
  intro w3 hw3
  obtain ⟨n2, hn2⟩ : ∃ n, n = w.heap.size := ⟨_, rfl⟩
  obtain ⟨n4, hn4⟩ : ∃ n, n = n2 + 1 := ⟨_, rfl⟩
  have x2 : w3.heap[n2]? = some (.cells #[.slice na nl nc, .slice ga gl gc, .slice la ll lc, .slice ka kl kc, .slice wa wl wc] 110 (0, 0)) := by rw [hw3, hn2]; exact blk_alloc (blk_new _ _) _
  have x4 : w3.heap[n4]? = some (Obj.cells #[.int .i64 (0), .int .i64 (0)] 31) := by rw [hw3, hn4, hn2]; exact blk_new' _ _ (by simp)
  have hE3 : Ext2 w w3 := by rw [hw3]; exact ext_trans (below_alloc' _ _) (below_alloc' _ _)
  rw [← hn2]
  try rw [← hn4]
  have HE3 := Lib.hid hE3; have X2 := Lib.hid x2; have X4 := Lib.hid x4; have HN2 := Lib.hid hn2; have HN4 := Lib.hid hn4
  clear hw3 hn2 hn4 hE3 x4
  have q2c := cell_blk x2
  have q2f := frz_blk x2
  clear x2
  have wf : IntKind.i64.wrap ((f : Int) - 1) = (f : Int) - 1 := IntWalk.i64_in _ (by omega)
  go_wp2_with (fail)
  (with_reducible refine (HPI.out _ HE3.out).mono ?_)
  rintro e w4 ⟨rfl, hE4⟩
  have HE4 := Lib.hid (ext_trans HE3.out hE4); have X24 := Lib.hid (Ext2.blk hE4 X2.out); have X44 := Lib.hid (Ext2.blk hE4 X4.out)
  clear q2c q2f hE4 X2 X4 HE3 HPI wf
  go_upto_region 3 with (fail)
  refine wp_name ?_
  intro w5 hw5
  obtain ⟨n6, hn6⟩ : ∃ n, n = w4.heap.size := ⟨_, rfl⟩
  have hPL : PlI n2 n4 n6 #[.slice na nl nc, .slice ga gl gc, .slice la ll lc, .slice ka kl kc, .slice wa wl wc] (plK gs L N f 0) w w5 := by
    rw [HP0.out]
    have h4 := blk_lt X44.out
    refine ⟨?_, ?_, ?_, ?_, HN2.out.symm, HN4.out, by omega⟩
    · rw [hw5]; exact ext_trans HE4.out (below_alloc' _ _)
    · rw [hw5]; exact blk_alloc X24.out _
    · rw [hw5]; exact blk_alloc X44.out _
    · rw [hw5, hn6]; exact blk_new _ _
  rw [← hn6]
  have HPL := Lib.hid hPL
  clear hw5 hn6 hPL X24 X44 HE4
  go_wp2_with (fail)
  go_loopw [7] (fun iv W => ∃ i : Nat, iv = .int .i64 i ∧ i ≤ ll ∧ PlI n2 n4 n6 #[.slice na nl nc, .slice ga gl gc, .slice la ll lc, .slice ka kl kc, .slice wa wl wc] (plK gs L N f i) w W ∧ -100000000000 * (i : Int) ≤ (plK gs L N f i).lo ∧ (plK gs L N f i).lo ≤ 300000 + 100000000000 * (i : Int) ∧ -100000000000 * (i : Int) ≤ (plK gs L N f i).hi ∧ (plK gs L N f i).hi ≤ 300000 + 100000000000 * (i : Int)) (fun iv _ => ll - (intOf iv).toNat)
  case atStart => exact ⟨0, rfl, by omega, HPL.out, by rw [HP0.out]; have := HP.out; dsimp only; omega⟩
  case round =>
    clear HPL
    obtain ⟨i, rfl, hi, hPL, hb1, hb2, hb3, hb4⟩ := hrel
    have HPL := Lib.hid hPL
    have x2 := hPL.b2
    have q2c := cell_blk x2
    have q2f := frz_blk x2
    clear hPL x2
    by_cases hil : i < ll
    · have hkl : i < L.length := by rw [← HLL.out]; exact hil
      obtain ⟨X, hX⟩ : ∃ X, X = ixgD L i := ⟨_, rfl⟩
      obtain ⟨⟨ha, hc⟩, hhd⟩ : ∃ X, X = hs i := ⟨_, rfl⟩
      obtain ⟨xn, hxn⟩ : ∃ n, n = X.1.length := ⟨_, rfl⟩
      have hps := HPS.out i hkl
      obtain ⟨O, hO⟩ : ∃ O, O = plK gs L N f i := ⟨_, rfl⟩
      rw [← hO] at HPL hb1 hb2 hb3 hb4 hps
      rw [show L.getD i ([], ⟨0, 0⟩) = X from hX.symm] at hps
      have HPS2 := Lib.hid hps; have HXN := Lib.hid hxn
      have HCL : Hid (∀ W, Ext2 w W → ∃ b off, la = some ⟨b, off, none⟩ ∧ W.cell? ⟨b, off + i * 3, none⟩ = some (.slice ha xn hc) ∧ W.cell? ⟨b, off + i * 3 + 1, none⟩ = some (.int .i64 X.2.lo) ∧ W.cell? ⟨b, off + i * 3 + 2, none⟩ = some (.int .i64 X.2.hi)) := Lib.hid fun W hW => by
        obtain ⟨b, off, hb, hcl⟩ := (HB.out.below hW).s.row.at (by omega) (i := i) hkl
        have c0 := hcl 0 (by omega); have c1 := hcl 1 (by omega); have c2 := hcl 2 (by omega)
        rw [Nat.add_zero] at c0
        simp only [smC] at c0 c1 c2
        rw [← hX] at c0 c1 c2
        rw [← hhd, ← hxn] at c0
        exact ⟨b, off, hb, c0, c1, c2⟩
      have HIX : Hid (∀ W, Ext2 w W → IxS W ⟨ha, hc⟩ X.1) := Lib.hid fun W hW => by
        have h := (HB.out.below hW).s.each i hkl
        rw [← hX, ← hhd] at h; exact h
      have hso : SumOk gs X := by rw [hX]; unfold ixgD; exact HSO.out _ (by rw [List.getD_eq_getElem?_getD, List.getElem?_eq_getElem hkl]; exact List.getElem_mem hkl)
      have HSX := Lib.hid hso
      have hxl := hso.len
      have hxb : xn ≤ 200001 := by rw [hxn]; have := HGI.out.2; omega
      have hhle := (HIX.out w (Below.refl _ _)).le; have hhmx := (HIX.out w (Below.refl _ _)).max
      rw [← hxn] at hhle
      dsimp only at hhle hhmx
      have HXB := Lib.hid hxb
      have HBD := Lib.hid (And.intro hb1 (And.intro hb2 (And.intro hb3 hb4)))
      have g1 : (0 : Int) ≤ (i : Int) := by omega
      have g2 : (i : Int) < (ll : Int) := by omega
      have e1 : decide ((0 : Int) ≤ (i : Int)) = true := decide_eq_true g1
      have e2 : decide ((i : Int) < (ll : Int)) = true := decide_eq_true g2
      have w1' : IntKind.i64.wrap ((i : Int) + 1) = (i : Int) + 1 := IntWalk.i64_in _ (by omega)
      clear hX hhd hxn hso hxl hxb hkl hps hO hb1 hb2 hb3 hb4
      go_wp2_with (fail)
      clear q2c q2f
      go_loopw [8, 9, 10] (fun sv ov kv W => ∃ k : Nat, kv = .int .i64 k ∧ k ≤ xn ∧ PlI n2 n4 n6 #[.slice na nl nc, .slice ga gl gc, .slice la ll lc, .slice ka kl kc, .slice wa wl wc] O w W ∧ TwoI (n6 + 1) ((X.1.take k).filter (pfI gs f)) ((X.1.take k).filter fun i => !pfI gs f i) sv ov W) (fun _ _ kv _ => xn - (intOf kv).toNat)
      case atStart => exact ⟨0, rfl, by omega, HPL.out, twoI_nil⟩
      case round =>
        clear HPL
        obtain ⟨k, rfl, hk, hPL, hTW⟩ := hrel
        have HPL := Lib.hid hPL; have HTW := Lib.hid hTW
        have x2 := hPL.b2
        have q2c := cell_blk x2
        have q2f := frz_blk x2
        obtain ⟨b, off, hla, c0, c1, c2⟩ := HCL.out _ hPL.ext
        subst hla
        clear hTW x2
        by_cases hkx : k < xn
        · have hkl : k < X.1.length := by rw [← HXN.out]; exact hkx
          obtain ⟨b3, off3, hha, d0⟩ := ix_cell (HIX.out _ hPL.ext) hkl
          dsimp only at hha
          subst hha
          have hql := HSX.out.lt _ (ix_mem hkl)
          have hf1 := filt_take (p := pfI gs f) hkl; have hf2 := filt_take (p := fun i => !pfI gs f i) hkl
          obtain ⟨q, hq⟩ : ∃ q, q = X.1.getD k 0 := ⟨_, rfl⟩
          rw [← hq] at d0 hql hf1 hf2
          obtain ⟨b4, off4, hga, e0, -, -, -⟩ := gp_cells (HB.out.below hPL.ext).g (i := q) hql
          dsimp only at hga
          subst hga
          have hqg : q < gl := by rw [HGL.out]; exact hql
          have hlA : ((X.1.take k).filter (pfI gs f)).length ≤ 200001 := by have := List.length_filter_le (pfI gs f) (X.1.take k); rw [List.length_take] at this; have := HXB.out; omega
          have hlB : ((X.1.take k).filter fun i => !pfI gs f i).length ≤ 200001 := by have := List.length_filter_le (fun i => !pfI gs f i) (X.1.take k); rw [List.length_take] at this; have := HXB.out; omega
          obtain ⟨A, hA⟩ : ∃ A, A = (X.1.take k).filter (pfI gs f) := ⟨_, rfl⟩
          obtain ⟨B, hB⟩ : ∃ A, A = (X.1.take k).filter fun i => !pfI gs f i := ⟨_, rfl⟩
          rw [← hA] at hlA hf1 HTW; rw [← hB] at hlB hf2 HTW
          obtain ⟨y, hy⟩ : ∃ y, y = (gpD gs q).frame := ⟨_, rfl⟩
          rw [← hy] at e0
          have hpf : pfI gs f q = decide (y ≤ (f : Int)) := by unfold pfI; rw [hy]
          rw [hpf] at hf1 hf2
          have HF1 := Lib.hid hf1; have HF2 := Lib.hid hf2; have HLA := Lib.hid hlA; have HLB := Lib.hid hlB
          have C0 := Lib.hid c0; have D0 := Lib.hid d0
          have g3 : (0 : Int) ≤ (k : Int) := by omega
          have g4 : (k : Int) < (xn : Int) := by omega
          have e3 : decide ((0 : Int) ≤ (k : Int)) = true := decide_eq_true g3
          have e4 : decide ((k : Int) < (xn : Int)) = true := decide_eq_true g4
          have g5 : (0 : Int) ≤ (q : Int) := by omega
          have g6 : (q : Int) < (gl : Int) := by omega
          have e5 : decide ((0 : Int) ≤ (q : Int)) = true := decide_eq_true g5
          have e6 : decide ((q : Int) < (gl : Int)) = true := decide_eq_true g6
          have w2' : IntKind.i64.wrap ((k : Int) + 1) = (k : Int) + 1 := IntWalk.i64_in _ (by omega)
          clear hkl hql hf1 hf2 hq hqg hlA hlB hA hB hy hpf hPL c1 c2
          by_cases ht : y ≤ (f : Int)
          · have t1 : decide (y ≤ (f : Int)) = true := decide_eq_true ht
            go_upto_region 10 with (fail)
            refine region_ev [] [0, 1, 2, 3, 4, 5, 6, 7, 8, 9, 10, 11, 12, 13, 14, 15] [] [] (by kernel_rfl) (by kernel_rfl) (by intro c a d v w h; cases d <;> exact h) ?_
            simp only [picks, List.drop_succ_cons, List.drop_zero]
            repeat (refine wpQ0_step (fun K hK => ?_); go_simp; (refine hK _ ?_; clear hK K))
            refine wpQ0_nil ?_
            repeat ((with_reducible refine wpQ2_step (fun K hK => ?_)); go_simp; first | ((with_reducible refine hK _ ?_); clear hK K) | (apply Exists.intro; refine ⟨fun x => ?_, hK _ ?_⟩; (fail); clear hK K) | (refine ite_undef (fun h => (by have h_ : (none : Option Bool) = some _ := h; cases h_)) ?_; (with_reducible refine hK _ ?_); clear hK K))
            (with_reducible refine wpQ2_nil ?_)
            refine Events.none_ fun w7 hg7 => ?_
            simp only [picks, List.drop_succ_cons, List.drop_zero]
            have HPL7 := Lib.hid (HPL.out.extW hg7); have HTW7 := Lib.hid (HTW.out.ext hg7)
            have x2 := HPL7.out.b2
            replace c0 := ext_cell' hg7 C0.out; replace d0 := ext_cell' hg7 D0.out
            have HX1 : Hid ((X.1.take (k + 1)).filter (pfI gs f) = A ++ [q] ∧ ((X.1.take (k + 1)).filter fun i => !pfI gs f i) = B) := Lib.hid ⟨by rw [HF1.out, t1]; rfl, by rw [HF2.out, t1]; rfl⟩
            clear q2c q2f hg7 e0 HPL HTW
            have q2c := cell_blk x2
            have q2f := frz_blk x2
            clear x2
            go_wp2_with (at_builtin; go_loud (refine app_one_at [.int .i64 (q : Int)] elInt rfl _ _ rfl (n6 + 1) rfl (HTW7.out.a.below (below_alloc' _ _)) w7.heap.size 1 rfl (blk_new _ _) (by simp [Value.oneCell']) (by have := HLA.out; omega) (by have := blk_lt HPL7.out.b6; simp; omega) ?_; intro v' w8 hO8 hg8 hp8; (have HTa := Lib.hid (HTW7.out.ext (below_alloc' w7 (.cells #[.int .i64 (q : Int)] 3 (0, 0))))); (have HPa := Lib.hid (HPL7.out.extW (below_alloc' w7 (.cells #[.int .i64 (q : Int)] 3 (0, 0))))); (have HT8 := Lib.hid (HTa.out.appA hg8 rfl hp8 hO8)); (have HP8 := Lib.hid (HPa.out.grown hg8 (own_block HTa.out.a))); clear hO8 hg8 hp8 HTa HPa))
            go_roundw
            case rel => exact ⟨k + 1, by go_num, by omega, HP8.out, by rw [HX1.out.1, HX1.out.2]; exact HT8.out⟩
            case measure => simp [intOf]; omega
          · have t1 : decide (y ≤ (f : Int)) = false := decide_eq_false ht
            go_upto_region 10 with (fail)
            refine region_ev [] [0, 1, 2, 3, 4, 5, 6, 7, 8, 9, 10, 11, 12, 13, 14, 15] [] [] (by kernel_rfl) (by kernel_rfl) (by intro c a d v w h; cases d <;> exact h) ?_
            simp only [picks, List.drop_succ_cons, List.drop_zero]
            repeat (refine wpQ0_step (fun K hK => ?_); go_simp; (refine hK _ ?_; clear hK K))
            refine wpQ0_nil ?_
            repeat ((with_reducible refine wpQ2_step (fun K hK => ?_)); go_simp; first | ((with_reducible refine hK _ ?_); clear hK K) | (apply Exists.intro; refine ⟨fun x => ?_, hK _ ?_⟩; (fail); clear hK K) | (refine ite_undef (fun h => (by have h_ : (none : Option Bool) = some _ := h; cases h_)) ?_; (with_reducible refine hK _ ?_); clear hK K))
            (with_reducible refine wpQ2_nil ?_)
            refine Events.none_ fun w7 hg7 => ?_
            simp only [picks, List.drop_succ_cons, List.drop_zero]
            have HPL7 := Lib.hid (HPL.out.extW hg7); have HTW7 := Lib.hid (HTW.out.ext hg7)
            have x2 := HPL7.out.b2
            replace c0 := ext_cell' hg7 C0.out; replace d0 := ext_cell' hg7 D0.out
            have HX1 : Hid ((X.1.take (k + 1)).filter (pfI gs f) = A ∧ ((X.1.take (k + 1)).filter fun i => !pfI gs f i) = B ++ [q]) := Lib.hid ⟨by rw [HF1.out, t1]; rfl, by rw [HF2.out, t1]; rfl⟩
            clear q2c q2f hg7 e0 HPL HTW
            have q2c := cell_blk x2
            have q2f := frz_blk x2
            clear x2
            go_wp2_with (at_builtin; go_loud (refine app_one_at [.int .i64 (q : Int)] elInt rfl _ _ rfl (n6 + 1) rfl (HTW7.out.b.below (below_alloc' _ _)) w7.heap.size 1 rfl (blk_new _ _) (by simp [Value.oneCell']) (by have := HLB.out; omega) (by have := blk_lt HPL7.out.b6; simp; omega) ?_; intro v' w8 hO8 hg8 hp8; (have HTa := Lib.hid (HTW7.out.ext (below_alloc' w7 (.cells #[.int .i64 (q : Int)] 3 (0, 0))))); (have HPa := Lib.hid (HPL7.out.extW (below_alloc' w7 (.cells #[.int .i64 (q : Int)] 3 (0, 0))))); (have HT8 := Lib.hid (HTa.out.appB hg8 rfl hp8 hO8)); (have HP8 := Lib.hid (HPa.out.grown hg8 (own_block HTa.out.b))); clear hO8 hg8 hp8 HTa HPa))
            go_roundw
            case rel => exact ⟨k + 1, by go_num, by omega, HP8.out, by rw [HX1.out.1, HX1.out.2]; exact HT8.out⟩
            case measure => simp [intOf]; omega
        · obtain rfl : xn = k := by omega
          have hgg : ¬ (xn : Int) < (xn : Int) := by omega
          have htk : X.1.take xn = X.1 := by rw [HXN.out, List.take_length]
          rw [htk] at HTW
          have hia : ∀ i ∈ X.1.filter (pfI gs f), i < gs.length := fun i hi => HSX.out.lt i (List.mem_filter.1 hi).1
          have hib : ∀ i ∈ (X.1.filter fun i => !pfI gs f i), i < gs.length := fun i hi => HSX.out.lt i (List.mem_filter.1 hi).1
          have hlA : (X.1.filter (pfI gs f)).length ≤ 200001 := by have := List.length_filter_le (pfI gs f) X.1; have := HXB.out; have := HXN.out; omega
          have hlB : (X.1.filter fun i => !pfI gs f i).length ≤ 200001 := by have := List.length_filter_le (fun i => !pfI gs f i) X.1; have := HXB.out; have := HXN.out; omega
          have hpp := ptR_part gs X f
          obtain ⟨A, hA⟩ : ∃ A, A = X.1.filter (pfI gs f) := ⟨_, rfl⟩
          obtain ⟨B, hB⟩ : ∃ A, A = X.1.filter fun i => !pfI gs f i := ⟨_, rfl⟩
          rw [← hA] at hia hlA hpp HTW; rw [← hB] at hib hlB hpp HTW
          obtain ⟨⟨za, zc⟩, hzv, hZ⟩ := OwnR.sl HTW.out.a
          obtain ⟨⟨oa, oc⟩, hov, hOV⟩ := OwnR.sl HTW.out.b
          dsimp only at hzv hov
          subst hzv
          subst hov
          have his := HSX.out.is
          have hpt := fun (W : World) (hW : Ext2 wr W) => partR_any (va := ha) (vn := xn) (vc := hc) (RowS.below HB.out.g (ext_trans HPL.out.ext hW)) (RowS.below hZ hW) (RowS.below hOV hW) hia hib HGI.out.1 hlA hlB (is := X.2) (by omega)
          have hbd := ptR_bd hia hib HGI.out.1 hlA hlB his
          obtain ⟨P, hP⟩ : ∃ P, P = ptR gs X.2 A B := ⟨_, rfl⟩
          have hps := HPS2.out
          rw [← hpp] at hps
          rw [← hP] at hpt hbd hps
          obtain ⟨zn, hzn⟩ : ∃ n, n = A.length := ⟨_, rfl⟩
          obtain ⟨on_, hon⟩ : ∃ n, n = B.length := ⟨_, rfl⟩
          rw [← hzn, ← hon, ← HGL.out] at hpt
          rw [← hzn, ← hon]
          have HPT : Hid (∀ W, Ext2 wr W → Calls Tryz.prog 50 #[.slice ga gl gc, .agg #[.slice ha xn hc, .int .i64 X.2.lo, .int .i64 X.2.hi], .slice za zn zc, .slice oa on_ oc] W fun e w' => e = .returned (.agg #[.int .i64 P.lo, .int .i64 P.hi]) ∧ Below W.heap.size W w') := Lib.hid hpt
          have hbd0 := HBD.out
          have hps3 := hps
          have HPS3 := Lib.hid hps3
          have w3' : IntKind.i64.wrap (O.lo + P.lo) = O.lo + P.lo := IntWalk.i64_in _ (by omega)
          have w4' : IntKind.i64.wrap (O.hi + P.hi) = O.hi + P.hi := IntWalk.i64_in _ (by omega)
          have HNB : Hid (-100000000000 * ((i + 1 : Nat) : Int) ≤ O.lo + P.lo ∧ O.lo + P.lo ≤ 300000 + 100000000000 * ((i + 1 : Nat) : Int) ∧ -100000000000 * ((i + 1 : Nat) : Int) ≤ O.hi + P.hi ∧ O.hi + P.hi ≤ 300000 + 100000000000 * ((i + 1 : Nat) : Int)) := Lib.hid (by omega)
          clear htk hia hib hlA hlB hpp hA hB hZ hOV his hpt hbd hP hps hzn hon hPL hbd0 hps3
          go_upto_region 13 with (fail)
          refine region_ev [] [0, 1, 2, 3, 4, 5, 6, 7, 8, 9] [(10, 11, some 11)] [] (by kernel_rfl) (by kernel_rfl) (by intro c a d v w h; cases d <;> exact h) ?_
          simp only [picks, List.drop_succ_cons, List.drop_zero]
          repeat (refine wpQ0_step (fun K hK => ?_); go_simp; (refine hK _ ?_; clear hK K))
          refine wpQ0_nil ?_
          repeat ((with_reducible refine wpQ2_step (fun K hK => ?_)); go_simp; first | ((with_reducible refine hK _ ?_); clear hK K) | (apply Exists.intro; refine ⟨fun x => ?_, hK _ ?_⟩; ((with_reducible exact HPT.out x.1 x.2)); clear hK K) | (refine ite_undef (fun h => (by have h_ : (none : Option Bool) = some _ := h; cases h_)) ?_; (with_reducible refine hK _ ?_); clear hK K))
          (with_reducible refine wpQ2_nil ?_)
          refine Events.fill1 (fun b => .pointer (some ⟨b, 0, none⟩)) (Obj.cells #[.int .i64 (0), .int .i64 (0)] 31) (Obj.cells #[.int .i64 P.lo, .int .i64 P.hi] 31) ⟨_, rfl, rfl, rfl, fun W => by kernel_rfl⟩ ⟨_, rfl, rfl, rfl, fun b W hb => ?_⟩ fun n11 w8 hn11 hg8 nn11 => ?_
          · have hbc := cell_blk hb; have hbf := frz_blk hb; go_simp; exact turn_two hb _ _
          simp only [picks, List.drop_succ_cons, List.drop_zero]
          have HPL8 := Lib.hid (HPL.out.extW hg8)
          have y11 := nn11; have y6 := HPL8.out.b6
          have l611 : ¬ n6 = n11 := by have := blk_lt HPL.out.b6; omega
          clear q2c q2f c0 c1 c2 hg8 hn11 nn11 HPT
          have q11c := cell_blk y11
          have q11f := frz_blk y11
          have q6c := cell_blk y6
          have q6f := frz_blk y6
          clear y11 y6
          go_wp2_with (fail)
          go_roundw
          case rel =>
            have hl := HPL8.out
            have hlw := hl.lw; have hl4 := hl.l4; have hl6 := hl.l6
            refine ⟨i + 1, by go_num, by omega, ?_, ?_⟩
            · rw [HPS3.out]
              exact ⟨below_set (below_set hl.ext (by omega)) (by omega), blk_set_ne (blk_set_ne hl.b2 (by omega)) (by omega), blk_set_ne (blk_set_ne hl.b4 (by omega)) (by omega), Eq.trans (blk_set (blk_set hl.b6 _ _) _ _) rfl, hlw, hl4, hl6⟩
            · rw [HPS3.out]; exact HNB.out
          case measure => simp [intOf]; omega
    · obtain rfl : ll = i := by omega
      have hgg : ¬ (ll : Int) < (ll : Int) := by omega
      rw [← HV.out] at HPL
      have x4 := HPL.out.b4; have x6 := HPL.out.b6
      have lw2 := HPL.out.lw; have lw4 := HPL.out.l4; have lw6 := HPL.out.l6
      have LW : Hid (w.heap.size ≤ n4) := Lib.hid (by omega)
      have q4c := cell_blk x4
      have q4f := frz_blk x4
      have q6c := cell_blk x6
      have q6f := frz_blk x6
      clear x4 x6 lw2 lw4 lw6
      go_wp2_with (fail)
      have r1 : ((wr.setCell ⟨n4, 0, none⟩ (.int .i64 V.lo)).setCell ⟨n4, 1, none⟩ (.int .i64 V.hi)).heap[n4]? = some (Obj.cells #[.int .i64 V.lo, .int .i64 V.hi] 31) := Eq.trans (blk_set (blk_set HPL.out.b4 _ _) _ _) rfl
      refine bodyPost_ret (v := .agg #[.int .i64 V.lo, .int .i64 V.hi]) ?_ rfl ⟨rfl, below_set (below_set HPL.out.ext LW.out) LW.out⟩
      have zc := cell_blk r1
      have zf := frz_blk r1
      simp [results, Tryz.results56, go_sem, zc]
end Go.Proofs.YtojomdojblgegaaGreatDoor
