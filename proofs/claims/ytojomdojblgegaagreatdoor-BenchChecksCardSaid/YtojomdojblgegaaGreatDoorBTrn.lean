/-
  bench.Torn.
-/
import Derived.Test.YtojomdojblgegaaGreatDoorBTld
namespace Go.Proofs.YtojomdojblgegaaGreatDoor.D
theorem tornK_len (l : List Note) : ∀ f, (tornK l f).length ≤ f
  | 0 => by simp [tornK]
  | f + 1 => by
    have := tornK_len l f
    rw [tornK]
    split
    · omega
    · split
      · simp; omega
      · simp; omega
theorem tornK_false {l : List Note} {f : Nat} (h : about l 2 f = false) : tornK l (f + 1) = tornK l f := by rw [tornK, if_pos h]
theorem tornK_new {l : List Note} {f : Nat} (h : about l 2 f = true) (h2 : ¬ (0 < (tornK l f).length ∧ (spD (tornK l f) ((tornK l f).length - 1)).hi = (f : Int) - 1)) : tornK l (f + 1) = tornK l f ++ [⟨f, f⟩] := by
  rw [tornK, if_neg (by rw [h]; simp), if_neg h2]
theorem tornK_set {l : List Note} {f : Nat} (h : about l 2 f = true) (h2 : 0 < (tornK l f).length ∧ (spD (tornK l f) ((tornK l f).length - 1)).hi = (f : Int) - 1) : tornK l (f + 1) = (tornK l f).set ((tornK l f).length - 1) { spD (tornK l f) ((tornK l f).length - 1) with hi := (f : Int) } := by
  rw [tornK, if_neg (by rw [h]; simp), if_pos h2]
end Go.Proofs.YtojomdojblgegaaGreatDoor.D
namespace Go.Proofs.YtojomdojblgegaaGreatDoor
open Go.RowKit D
set_option linter.unusedVariables false
set_option linter.unusedSimpArgs false
attribute [local go_sem high] run_minI run_maxI
attribute [local go_sem] upon2 cls_cell cls_frozen forall_const exists_eq_left'
attribute [local go_sem] FirstUpon atBlk_cell
def TornOut (w : World) (T : Task) (e : Ending) (w' : World) : Prop := Below w.heap.size w w' ∧ (((checkV T).2.2 ≠ 0 ∧ e = .returned (.tuple #[.slice none 0 0, .int .i64 (checkV T).2.2])) ∨ ((checkV T).2.2 = 0 ∧ ∃ s' : Sl, e = .returned (.tuple #[.slice s'.a (tornK (standV T.notes) T.reel.frames.toNat).length s'.cap, .int .i64 0]) ∧ SpansS w' s' (tornK (standV T.notes) T.reel.frames.toNat)))
set_option maxRecDepth 100000 in
set_option maxHeartbeats 8000000 in
theorem torn_any {T : Task} {t : TSl} {w : World} (hT : TaskAt w T t) (hm : MaxAt w) : Calls Tryz.prog 31 #[.agg #[.string T.reel.name, .int .i64 T.reel.gauge, .int .i64 T.reel.base, .int .i64 T.reel.frames, .int .i64 T.reel.ylo, .int .i64 T.reel.yhi, .int .i64 T.reel.keep, .slice t.r.m.a T.reel.marks.length t.r.m.cap, .slice t.r.s.a T.reel.syms.length t.r.s.cap, .slice t.r.l.a T.reel.lens.length t.r.l.cap, .int .i64 T.whole.lo, .int .i64 T.whole.hi, .slice t.n.a T.notes.length t.n.cap]] w (TornOut w T) := by
  have HLY := Lib.hid fun (W : World) (hW : Ext2 w W) => lay_any (hT.below hW) (hm.below hW)
  obtain ⟨E, hE⟩ : ∃ E, E = (checkV T).2.2 := ⟨_, rfl⟩
  have HEE := Lib.hid hE
  obtain ⟨N, hN⟩ : ∃ N, N = standV T.notes := ⟨_, rfl⟩
  have HNN := Lib.hid hN
  have HL2 : Hid (∀ W, Ext2 w W → Calls Tryz.prog 42 #[.agg #[.string T.reel.name, .int .i64 T.reel.gauge, .int .i64 T.reel.base, .int .i64 T.reel.frames, .int .i64 T.reel.ylo, .int .i64 T.reel.yhi, .int .i64 T.reel.keep, .slice t.r.m.a T.reel.marks.length t.r.m.cap, .slice t.r.s.a T.reel.syms.length t.r.s.cap, .slice t.r.l.a T.reel.lens.length t.r.l.cap, .int .i64 T.whole.lo, .int .i64 T.whole.hi, .slice t.n.a T.notes.length t.n.cap]] W fun e w' => Below W.heap.size W w' ∧ ((E ≠ 0 ∧ e = .returned (.tuple #[.pointer none, .int .i64 E])) ∨ (E = 0 ∧ ∃ (B g F : Nat) (ns : Sl), e = .returned (.tuple #[.pointer (some ⟨B, 0, none⟩), .int .i64 0]) ∧ Tab w' T t N ns B g F))) := Lib.hid fun W hW => (HLY.out W hW).mono fun e w' h => by rw [hE, hN]; exact h
  clear hT hm HLY hE hN
  go_enter Tryz.func31, Tryz.ntmps31
  go_upto_region 1 with (fail)
  refine wp_name ?_
  intro w3 hw3
  obtain ⟨n3, hn3⟩ : ∃ n, n = w.heap.size := ⟨_, rfl⟩
  have x3 : w3.heap[n3]? = some (Obj.cells #[.string T.reel.name, .int .i64 T.reel.gauge, .int .i64 T.reel.base, .int .i64 T.reel.frames, .int .i64 T.reel.ylo, .int .i64 T.reel.yhi, .int .i64 T.reel.keep, .slice t.r.m.a T.reel.marks.length t.r.m.cap, .slice t.r.s.a T.reel.syms.length t.r.s.cap, .slice t.r.l.a T.reel.lens.length t.r.l.cap, .int .i64 T.whole.lo, .int .i64 T.whole.hi, .slice t.n.a T.notes.length t.n.cap] 38) := by rw [hw3, hn3]; exact blk_new _ _
  have hE3 : Ext2 w w3 := by rw [hw3]; exact below_alloc' _ _
  rw [← hn3]
  have HE3 := Lib.hid hE3
  clear hw3 hn3 hE3
  have q3c := cell_blk x3
  have q3f := frz_blk x3
  clear x3
  go_wp2_with (fail)
  (with_reducible refine (HL2.out _ HE3.out).mono ?_)
  rintro e w4 ⟨hE4, ⟨hne, rfl⟩ | ⟨h0, B, g, F, ns, rfl, hTab⟩⟩
  · have HE4 := Lib.hid (ext_trans HE3.out hE4)
    have hb : (E != 0) = true := by simpa using hne
    have HNE := Lib.hid hne
    clear hne hE4 q3c q3f
    go_wp2_with (fail)
    go_ret2
    exact ⟨HE4.out, .inl ⟨by rw [← HEE.out]; exact HNE.out, by rw [← HEE.out]; rfl⟩⟩
  · have HE4 := Lib.hid (ext_trans HE3.out hE4)
    have hle := hTab.le
    have HMK := Lib.hid (marked_any hTab.tab hTab.ok hTab.fr 2)
    have hF : T.reel.frames.toNat = F := by rw [hTab.fr]; omega
    have HF := Lib.hid hF
    subst h0
    have H0 : Hid ((checkV T).2.2 = 0) := Lib.hid HEE.out.symm
    clear hE4 hTab hF q3c q3f
    go_wp2_with (fail)
    refine HMK.out.mono ?_
    rintro e w5 ⟨⟨gm, cap, rfl, hcap, hcm, hgm, xm⟩, hE5⟩
    have HE5 := Lib.hid (ext_trans HE4.out hE5)
    have XM := Lib.hid xm
    obtain ⟨b5, hb5⟩ : ∃ b, b = w5.heap.size := ⟨_, rfl⟩
    have lgm : gm < b5 := by rw [hb5]; exact blk_lt xm
    have HS5 : Hid (b5 ≤ w5.heap.size) := Lib.hid (by omega)
    have lw5 : w.heap.size ≤ b5 := by rw [hb5]; exact HE5.out.size
    clear hE5 xm hb5 hgm HMK
    go_wp2_with (fail)
    go_loopw [2, 19] (fun v i wr => ∃ f : Nat, i = .int .i64 f ∧ f ≤ F ∧ Ext2 w wr ∧ b5 ≤ wr.heap.size ∧ wr.heap[gm]? = some (.cells (boolL F fun i => about N 2 (i : Int)).toArray 4 (0, 0)) ∧ OwnR wr b5 31 2 v (tornK N f).length (spC (tornK N f))) (fun _ i _ => F - (intOf i).toNat)
    case atStart => exact ⟨0, rfl, by omega, HE5.out, HS5.out, XM.out, own_nil _ _ _ _ _⟩
    case round =>
      clear HE5 HS5 XM
      obtain ⟨f, rfl, hf, hE, hsz, xm, hO⟩ := hrel
      have HE := Lib.hid hE; have HSZ := Lib.hid hsz; have XM := Lib.hid xm
      obtain ⟨⟨sa, sc⟩, hv, hR⟩ := OwnR.sl hO
      subst hv
      have hnc := hR.le; have hncm := hR.max
      dsimp only at hnc hncm
      have hkl := tornK_len N f
      have HO := Lib.hid hO
      clear hE hsz hO hR
      by_cases hlt : f < F
      · go_light
        have hsc : wr.cell? ⟨gm, f, none⟩ = some (.bool (about N 2 (f : Int))) := by rw [cell_blk xm, List.getElem?_toArray, boolL_at hlt]
        have hK0 := fun h => tornK_false (l := N) (f := f) h
        have hK1 := fun h h2 => tornK_new (l := N) (f := f) h h2
        have hK2 := fun h h2 => tornK_set (l := N) (f := f) h h2
        obtain ⟨K, hK⟩ : ∃ K, K = tornK N f := ⟨_, rfl⟩
        rw [← hK] at hK0 hK1 hK2 hnc HO hkl ⊢
        obtain ⟨v, hv⟩ : ∃ v, v = about N 2 (f : Int) := ⟨_, rfl⟩
        rw [← hv] at hsc hK0 hK1 hK2
        obtain ⟨n, hn⟩ : ∃ n, n = K.length := ⟨_, rfl⟩
        rw [← hn] at hnc HO hK1 hK2 hkl ⊢
        have HN := Lib.hid hn; have HK0 := Lib.hid hK0; have HK1 := Lib.hid hK1; have HK2 := Lib.hid hK2
        have h0 : (0 : Int) ≤ (f : Int) := by omega
        have h1 : (f : Int) < (F : Int) := by omega
        have w1' : IntKind.i64.wrap ((f : Int) + 1) = (f : Int) + 1 := IntWalk.i64_in _ (by omega)
        have w2' : IntKind.i64.wrap ((n : Int) - 1) = (n : Int) - 1 := IntWalk.i64_in _ (by omega)
        have w3' : IntKind.i64.wrap ((f : Int) - 1) = (f : Int) - 1 := IntWalk.i64_in _ (by omega)
        clear hK hv hn hK0 hK1 hK2 xm
        cases v with
        | false =>
          have HF2 := Lib.hid (HK0.out rfl)
          go_wp2_with (fail)
          go_roundw
          case rel => exact ⟨f + 1, by go_num, by omega, HE.out, HSZ.out, XM.out, by rw [HF2.out, ← HN.out]; exact HO.out⟩
          case measure => simp [intOf]; omega
        | true =>
          have hf9 : (f : Int) = ((f : Nat) : Int) := rfl
          by_cases hn0 : n = 0
          · have HF2 : Hid (tornK N (f + 1) = K ++ [⟨f, f⟩]) := Lib.hid (HK1.out rfl (by omega))
            have d1 : ¬ ((n : Int) - 1 ≥ 0) := by omega
            have d2 : decide ((n : Int) - 1 ≥ 0) = false := decide_eq_false d1
            clear hn0
            go_wp2_with (at_builtin; refine app_one_at [.int .i64 (f : Int), .int .i64 (f : Int)] elSpan rfl _ _ rfl b5 rfl (HO.out.below (below_alloc' _ _)) wr.heap.size 1 rfl (blk_new _ _) (by simp [Value.oneCell']) (by omega) (by have := HSZ.out; simp; omega) ?_; intro v' w7 hO7 hg7 _; (have HO7 := Lib.hid hO7); (have HG7 := Lib.hid hg7); clear hO7 hg7)
            go_roundw
            case rel =>
                have hE7 : Ext2 w w7 := ext_grown (ext_trans HE.out (below_alloc' _ _)) HG7.out (fun k hk => by have := own_ge HO.out k hk; omega)
                have hs7 : b5 ≤ w7.heap.size := Nat.le_trans (by have := HSZ.out; simp; omega) HG7.out.size
                have hm7 : w7.heap[gm]? = some (.cells (boolL F fun i => about N 2 (i : Int)).toArray 4 (0, 0)) := (HG7.out.block gm (by have := blk_lt XM.out; simp; omega) (fun he => by have := own_ge HO.out gm he.symm; omega)).trans (blk_alloc XM.out _)
                refine ⟨f + 1, by go_num, by omega, hE7, hs7, hm7, ?_⟩
                rw [HF2.out]
                have h := HO7.out
                rw [HN.out] at h
                exact own_sp h
            case measure => simp [intOf]; omega
          · obtain ⟨q, hq⟩ : ∃ q : Nat, (q : Int) = (n : Int) - 1 := ⟨n - 1, by omega⟩
            have hqn : q = n - 1 := by omega
            replace w2' : IntKind.i64.wrap ((n : Int) - 1) = (q : Int) := by rw [w2', hq]
            have d1 : (q : Int) ≥ 0 := by omega
            have d2 : decide ((q : Int) ≥ 0) = true := decide_eq_true d1
            have d3 : (q : Int) < (n : Int) := by omega
            have d4 : (0 : Int) ≤ (q : Int) := by omega
            have d5 : decide ((0 : Int) ≤ (q : Int)) = true := decide_eq_true d4
            have d6 : decide ((q : Int) < (n : Int)) = true := decide_eq_true d3
            obtain ⟨g2, cp2, hv2, hge2, -, -, hrow, hfz⟩ := own_some HO.out (by omega)
            obtain ⟨rfl, rfl⟩ : sa = some ⟨g2, 0, none⟩ ∧ sc = cp2 := by simpa using hv2
            obtain ⟨c0, c1⟩ := hrow.two (i := q) (by omega)
            have f1 := hfz (q * 2 + 1)
            simp only [spC, Nat.zero_add] at c0 c1
            have hk1 := HK1.out rfl; have hk2 := HK2.out rfl
            rw [← hqn] at hk1 hk2
            obtain ⟨x, hx⟩ : ∃ x, x = spD K q := ⟨_, rfl⟩
            rw [← hx] at c0 c1 hk1 hk2
            have HXX := Lib.hid hx; have HQN := Lib.hid hqn
            by_cases he : x.hi = (f : Int) - 1
            · have HF2 := Lib.hid (hk2 ⟨by omega, he⟩)
              have b1 : (x.hi == (f : Int) - 1) = true := by simpa using he
              clear hk1 hk2 hx hqn he hq hv2 hrow hfz hf9
              go_wp2_with (fail)
              go_roundw
              case rel =>
                have h1 := HO.out.set (i := q) (j := 1) (by omega) (by omega) (.int .i64 (f : Int))
                refine ⟨f + 1, by go_num, by omega, below_set HE.out (by omega), by rw [World.size_setCell]; exact HSZ.out, blk_set_ne XM.out (by omega), ?_⟩
                rw [HF2.out, List.length_set, ← HN.out]
                refine OwnR.congr h1 fun i j hi hj => ?_
                have e : spD (K.set q ⟨x.lo, (f : Int)⟩) i = if i = q then ⟨x.lo, (f : Int)⟩ else spD K i := by
                  unfold spD
                  rw [List.getD_eq_getElem?_getD, List.getD_eq_getElem?_getD, List.getElem?_set]
                  by_cases hiq : i = q
                  · subst hiq; rw [if_pos rfl, if_pos (by rw [← HN.out]; exact hi), if_pos rfl]; rfl
                  · rw [if_neg (Ne.symm hiq), if_neg hiq]
                by_cases hiq : i = q
                · subst hiq
                  rw [if_pos rfl] at e
                  rcases (by omega : j = 0 ∨ j = 1) with rfl | rfl
                  · simp only [spC, e]; rw [if_neg (by omega)]; rw [HXX.out]
                  · simp only [spC, e]; rw [if_pos (by simp)]
                · rw [if_neg hiq] at e
                  rw [if_neg (fun h => hiq h.1)]
                  simp only [spC, e]
              case measure => simp [intOf]; omega
            · have HF2 : Hid (tornK N (f + 1) = K ++ [⟨f, f⟩]) := Lib.hid (hk1 fun h => he h.2)
              have b1 : (x.hi == (f : Int) - 1) = false := by simpa using he
              clear hk1 hk2 hx hqn he hq hv2 hrow hfz hf9
              go_wp2_with (at_builtin; refine app_one_at [.int .i64 (f : Int), .int .i64 (f : Int)] elSpan rfl _ _ rfl b5 rfl (HO.out.below (below_alloc' _ _)) wr.heap.size 1 rfl (blk_new _ _) (by simp [Value.oneCell']) (by omega) (by have := HSZ.out; simp; omega) ?_; intro v' w7 hO7 hg7 _; (have HO7 := Lib.hid hO7); (have HG7 := Lib.hid hg7); clear hO7 hg7)
              go_roundw
              case rel =>
                  have hE7 : Ext2 w w7 := ext_grown (ext_trans HE.out (below_alloc' _ _)) HG7.out (fun k hk => by have := own_ge HO.out k hk; omega)
                  have hs7 : b5 ≤ w7.heap.size := Nat.le_trans (by have := HSZ.out; simp; omega) HG7.out.size
                  have hm7 : w7.heap[gm]? = some (.cells (boolL F fun i => about N 2 (i : Int)).toArray 4 (0, 0)) := (HG7.out.block gm (by have := blk_lt XM.out; simp; omega) (fun he => by have := own_ge HO.out gm he.symm; omega)).trans (blk_alloc XM.out _)
                  refine ⟨f + 1, by go_num, by omega, hE7, hs7, hm7, ?_⟩
                  rw [HF2.out]
                  have h := HO7.out
                  rw [HN.out] at h
                  exact own_sp h
              case measure => simp [intOf]; omega
      · obtain rfl : F = f := by omega
        obtain ⟨n, hn⟩ : ∃ n, n = (tornK N F).length := ⟨_, rfl⟩
        rw [← hn] at hnc HO ⊢
        have HN := Lib.hid hn
        clear hn xm hkl
        go_wp2_with (fail)
        go_ret2
        exact ⟨HE.out, .inr ⟨H0.out, ⟨sa, sc⟩, by rw [← HNN.out, HF.out, ← HN.out]; rfl, by rw [← HNN.out, HF.out]; have h := own_row HO.out; rw [HN.out] at h; exact h⟩⟩
end Go.Proofs.YtojomdojblgegaaGreatDoor
