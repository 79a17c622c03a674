/-
  near.
-/
import Derived.Test.YtkidicfpfknfoaaDoorVNearC
namespace Go.Proofs.YtkidicfpfknfoaaDoor.D
set_option linter.unusedVariables false
/-- What near needs of a site. -/
structure NrOk (S : Site) : Prop where
  cans : CansOk S
  rooms : S.rooms.length ≤ 12
  cl : S.cans.length ≤ 30
  sl : S.steps.length ≤ 8
  at_ : ∀ i, i < S.rooms.length → (0 ≤ (rmD S.rooms i).x ∧ (rmD S.rooms i).x ≤ 10000) ∧ 0 ≤ (rmD S.rooms i).y ∧ (rmD S.rooms i).y ≤ 10000
  met : ∀ i, i < S.steps.length → 0 ≤ (stD S.steps i).metres ∧ (stD S.steps i).metres ≤ 10000
theorem Chk.nrOk {S : Site} (h : Chk S) : NrOk S :=
  ⟨h.cans, h.len.1.2, h.len.2.1, h.len.2.2, fun i hi => ⟨(h.room hi).2.2.2.2.1, (h.room hi).2.2.2.2.2⟩, fun i hi => (h.step hi).1.2⟩
theorem met_in {S : Site} (h : ∀ i, i < S.steps.length → 0 ≤ (stD S.steps i).metres ∧ (stD S.steps i).metres ≤ 10000) (a : Int) : 0 ≤ met S a ∧ met S a ≤ 10000 := by
  unfold met
  have : ∀ k, k ≤ S.steps.length → 0 ≤ metK S.steps a k ∧ metK S.steps a k ≤ 10000 := fun k hk => by
    induction k with
    | zero => simp [metK]
    | succ k ih =>
      rw [metK]
      split
      · exact h k (by omega)
      · exact ih (by omega)
  exact this _ (Nat.le_refl _)
theorem sq_in {a b : Int} (ha : 0 ≤ a ∧ a ≤ 10000) (hb : 0 ≤ b ∧ b ≤ 10000) : 0 ≤ (a - b) * (a - b) ∧ (a - b) * (a - b) ≤ 100000000 := by
  rcases Int.le_total a b with h | h
  · have h1 : 0 ≤ (b - a) * (b - a) := Int.mul_nonneg (by omega) (by omega)
    have h2 : (b - a) * (b - a) ≤ 10000 * 10000 := Int.mul_le_mul (by omega) (by omega) (by omega) (by omega)
    have e : (a - b) * (a - b) = (b - a) * (b - a) := by rw [← Int.neg_mul_neg]; congr 1 <;> omega
    rw [e]; omega
  · have h1 : 0 ≤ (a - b) * (a - b) := Int.mul_nonneg (by omega) (by omega)
    have h2 : (a - b) * (a - b) ≤ 10000 * 10000 := Int.mul_le_mul (by omega) (by omega) (by omega) (by omega)
    omega
theorem sq_in' {a : Int} (ha : 0 ≤ a ∧ a ≤ 10000) : 0 ≤ a * a ∧ a * a ≤ 100000000 := by
  have h1 : 0 ≤ a * a := Int.mul_nonneg ha.1 ha.1
  have h2 : a * a ≤ 10000 * 10000 := Int.mul_le_mul ha.2 ha.2 ha.1 (by omega)
  omega
theorem nearRow_len (S : Site) (wh : List Int) (a : Nat) : ∀ k, (nearRow S wh a k).length ≤ k
  | 0 => Nat.le_refl _
  | k + 1 => by
    rw [nearRow, List.length_append]
    have := nearRow_len S wh a k
    split
    · simp; omega
    · simp; omega
theorem nearK_len (S : Site) (wh : List Int) : ∀ a, (nearK S wh a).length ≤ a * S.rooms.length
  | 0 => Nat.zero_le _
  | a + 1 => by
    rw [nearK, List.length_append, Nat.succ_mul]
    have := nearK_len S wh a
    have := nearRow_len S wh a (S.rooms.length - (a + 1))
    omega
end Go.Proofs.YtkidicfpfknfoaaDoor.D
namespace Go.Proofs.YtkidicfpfknfoaaDoor
open Go.RowKit D
set_option linter.unusedVariables false
set_option linter.unusedSimpArgs false
attribute [local go_sem high] run_minI run_maxI
attribute [local go_sem] upon2 cls_cell cls_frozen forall_const exists_eq_left'
attribute [local go_sem] FirstUpon
theorem elNr : Elem Tryd.prog 72 99 (.agg #[.int .i64 0, .int .i64 0]) 2 16 := ⟨by kernel_rfl, by kernel_rfl, rfl, by omega, by omega⟩
def NrsOut (w : World) (l : List Nr) (e : Ending) (w' : World) : Prop := ∃ v, e = .returned v ∧ OwnR w' w.heap.size 99 2 v l.length (nrC l) ∧ Below w.heap.size w w'
theorem nrC_snoc {l : List Nr} {x : Nr} {i j : Nat} (hi : i < l.length + 1) (hj : j < 2) : upd (nrC l) l.length [.int .i64 x.a, .int .i64 x.b] i j = nrC (l ++ [x]) i j := by
  by_cases h : i = l.length
  · subst h
    rw [upd_at]
    have e : nrD (l ++ [x]) l.length = x := by simp [nrD]
    rcases (by omega : j = 0 ∨ j = 1) with rfl | rfl <;> simp [nrC, e]
  · rw [upd_lt (by omega)]
    have e : nrD (l ++ [x]) i = nrD l i := by unfold nrD; rw [List.getD_eq_getElem?_getD, List.getD_eq_getElem?_getD, List.getElem?_append_left (by omega)]
    rcases (by omega : j = 0 ∨ j = 1) with rfl | rfl <;> simp [nrC, e]
theorem OwnR.sl2 {w : World} {base : Nat} {e : TypeId} {n : Nat} {g cap : Nat} {l : List Int} (h : OwnR w base e 1 (.slice (some ⟨g, 0, none⟩) n cap) n (intC l)) (hl : l.length = n) : IntsS w ⟨some ⟨g, 0, none⟩, cap⟩ l := by
  obtain ⟨s, hs, hr⟩ := h.sl
  simp only [Value.slice.injEq, true_and] at hs
  obtain ⟨h1, h2⟩ := hs
  obtain ⟨sa, sc⟩ := s
  dsimp only at h1 h2
  subst h1; subst h2
  unfold IntsS; rw [hl]; exact hr
/-- What near keeps while it works. -/
structure NrSt (w0 W : World) (b b1 b2 : Nat) (am : List Int) (g cap : Nat) : Prop where
  bel : Below w0.heap.size w0 W
  box1 : W.heap[b1]? = some (.cells #[.pointer (some ⟨b, 0, none⟩)] 128 (0, 0))
  box2 : W.heap[b2]? = some (.cells #[.slice (some ⟨g, 0, none⟩) am.length cap] 51 (0, 0))
  am : OwnR W w0.heap.size 3 1 (.slice (some ⟨g, 0, none⟩) am.length cap) am.length (intC am)
theorem NrSt.below {w0 W W' : World} {b b1 b2 : Nat} {am : List Int} {g cap : Nat} (h : NrSt w0 W b b1 b2 am g cap) (hb : Below W.heap.size W W') : NrSt w0 W' b b1 b2 am g cap :=
  ⟨h.bel.trans (hb.mono h.bel.size), below_blk hb h.box1 (blk_lt h.box1), below_blk hb h.box2 (blk_lt h.box2), h.am.below hb⟩
theorem NrSt.box {w0 W : World} {b b1 b2 : Nat} {am : List Int} {g cap : Nat} {S : Site} {s : SSl} {M : List Mv} {k : Sl} (h : NrSt w0 W b b1 b2 am g cap) (hV : VltAt w0 S s b M k) : NrBox W S s b b1 b2 am ⟨some ⟨g, 0, none⟩, cap⟩ :=
  ⟨⟨M, k, hV.below h.bel⟩, h.box1, h.box2, h.am.sl2 rfl⟩
theorem NrSt.app {w0 W W' : World} {b b1 b2 : Nat} {am : List Int} {g cap : Nat} {v : Value} {n : Nat} {c : Nat → Nat → Value} {o : Obj} (h : NrSt w0 W b b1 b2 am g cap) (hO : OwnR W w0.heap.size 99 2 v n c) (hg : (W.alloc o).grownBy W' v.ownBlock) : NrSt w0 W' b b1 b2 am g cap :=
  ⟨below_app h.bel hO h.bel.size hg, app_blk hO hg h.box1 (by decide), app_blk hO hg h.box2 (by decide), own_app hO hg h.am (by decide)⟩
set_option maxRecDepth 100000 in
set_option maxHeartbeats 8000000 in
theorem near_any {S : Site} {s : SSl} {b : Nat} {M : List Mv} {k t : Sl} {wh : List Int} {w : World} (hV : VltAt w S s b M k) (hN : NrOk S) (hT : IntsS w t wh) (hl : wh.length = S.cans.length) (hw : ∀ i, i < S.cans.length → 0 ≤ intD wh i ∧ intD wh i < S.rooms.length) :
    Calls Tryd.prog 48 #[.pointer (some ⟨b, 0, none⟩), .slice t.a S.cans.length t.cap] w (NrsOut w (nears S wh)) := by
  have HV := Lib.hid hV; have HN := Lib.hid hN
  have x0 := hV.blk
  have hrl := hV.site.rm.le; have hrm := hV.site.rm.max
  have HAM : Hid (∀ W, Below w.heap.size w W → Calls Tryd.prog 76 #[.pointer (some ⟨b, 0, none⟩), .slice t.a S.cans.length t.cap] W (WhOut W S.rooms.length (amtsV S wh))) := Lib.hid fun W hW => amounts_any (hV.below hW) hN.cans hN.cl hN.rooms (hT.below hW) hl hw
  have hlen : (amtsV S wh).length = S.rooms.length := by simp [amtsV]
  have hn12 := hN.rooms
  have hout : ∀ W v, OwnR W w.heap.size 99 2 v (nearK S wh S.rooms.length).length (nrC (nearK S wh S.rooms.length)) → Below w.heap.size w W → NrsOut w (nears S wh) (.returned v) W := fun W v h1 h2 => ⟨v, rfl, h1, h2⟩
  have HOUT := Lib.hid hout
  have hat : ∀ r, r < S.rooms.length → intD (amtsV S wh) r = amt S wh r := fun r hr => amtsV_at hr
  have HAT := Lib.hid hat; have HLEN := Lib.hid hlen
  obtain ⟨am, ham⟩ : ∃ am, am = amtsV S wh := ⟨_, rfl⟩
  rw [← ham] at HAM HLEN HAT
  obtain ⟨⟨ra, rc⟩, cs, ps⟩ := s
  dsimp only at hrl hrm
  clear hV hN hT hl hw hlen hout ham hat
  go_enter Tryd.func48, Tryd.ntmps48
  go_wp2_with (fail)
  refine calls_name ?_
  intro w1 h1
  have y1 : w1.heap[w.heap.size]? = some (.cells #[.pointer (some ⟨b, 0, none⟩)] 128 (0, 0)) := by rw [h1]; exact blk_new _ _
  have hE1 : Ext2 w w1 := by rw [h1]; exact below_alloc' _ _
  have hB1 : Below w.heap.size w w1 := hE1
  obtain ⟨b1, hb1⟩ : ∃ b1, b1 = w.heap.size := ⟨_, rfl⟩
  rw [← hb1] at y1 ⊢
  have H1 := Lib.hid hb1
  clear h1
  (with_reducible refine (HAM.out _ hB1).mono ?_)
  rintro e w2 ⟨g, cap, rfl, hO2, hb2⟩
  have hE2 := ext_trans hE1 hb2
  have y1 := Ext2.blk hb2 y1
  have HI2 := Lib.hid hO2
  clear hO2 hb2 hE1 hb1
  have x2 := Ext2.blk hE2 x0
  have l1 := blk_lt y1; have l0 := blk_lt x2
  have n1 : ¬ b1 = w2.heap.size := by omega
  have n0 : ¬ b = w2.heap.size := by omega
  have q1c := cell_blk y1
  have q1f := frz_blk y1
  have q0c := cell_blk x2
  have q0f := frz_blk x2
  go_wp2_with (fail)
  clear q1c q1f q0c q0f
  refine wp_name ?_
  intro w3 h3
  obtain ⟨b2, hb2⟩ : ∃ b2, b2 = w2.heap.size := ⟨_, rfl⟩
  have hE23 : Ext2 w2 w3 := by rw [h3]; exact below_alloc' _ _
  have y2 : w3.heap[b2]? = some (.cells #[.slice (some ⟨g, 0, none⟩) am.length cap] 51 (0, 0)) := by rw [h3, hb2, HLEN.out]; exact blk_new _ _
  have hE3 := ext_trans hE2 hE23
  have hO3 : OwnR w3 w.heap.size 3 1 (.slice (some ⟨g, 0, none⟩) am.length cap) am.length (intC am) := by
    rw [HLEN.out]; exact (HI2.out.below hE23).base hB1.size
  have hNS : NrSt w w3 b b1 b2 am g cap := ⟨hE3, Ext2.blk hE23 y1, y2, hO3⟩
  have HNS := Lib.hid hNS
  rw [← hb2]
  have HKEEP : Hid (∀ W (a : Nat), NrSt w W b b1 b2 am g cap → a < S.rooms.length → Calls Tryd.prog 77 #[.int .i64 (a : Int), .pointer (some ⟨b1, 0, none⟩), .pointer (some ⟨b2, 0, none⟩)] W fun e w' => e = .returned (.int .i64 (met S (amt S wh a))) ∧ Below W.heap.size W w') := Lib.hid fun W a hW ha => by
    have h := keep_any (hW.box HV.out) (a := a) (by rw [HLEN.out]; exact ha) HN.out.sl
    rw [HAT.out a ha] at h; exact h
  have HRISK : Hid (∀ W (p q : Nat), p < S.rooms.length → q < S.rooms.length → NrSt w W b b1 b2 am g cap → Calls Tryd.prog 78 #[.int .i64 (p : Int), .int .i64 (q : Int), .pointer (some ⟨b2, 0, none⟩), .pointer (some ⟨b1, 0, none⟩)] W fun e w' => e = .returned (.bool (risk S wh p q)) ∧ W = w') := Lib.hid fun W p q hp hq hW => by
    have h := risk_any (hW.box HV.out) (p := p) (q := q) (by rw [HLEN.out]; exact hp) (by rw [HLEN.out]; exact hq) HLEN.out
    rw [HAT.out p hp, HAT.out q hq] at h; exact h
  clear y1 y2 hNS hE2 hE23 x2 h3 hb2 n1 n0 l1 l0 HI2 hE3 hO3 hB1
  go_loopw [4, 25] (fun v p wr => ∃ a : Nat, p = .int .i64 (a : Int) ∧ a ≤ S.rooms.length ∧ NrSt w wr b b1 b2 am g cap ∧ OwnR wr w.heap.size 99 2 v (nearK S wh a).length (nrC (nearK S wh a))) (fun _ p _ => S.rooms.length - (intOf p).toNat)
  case atStart => exact ⟨0, rfl, by omega, HNS.out, own_nil _ _ _ _ _⟩
  case round =>
    obtain ⟨a, rfl, ha, hE, hO⟩ := hrel
    have HO := Lib.hid hO; clear hO
    have HS := Lib.hid hE; clear hE
    by_cases hlt : a < S.rooms.length
    · go_light
      obtain ⟨rb, roff, hra, hc⟩ := rm_cells (HV.out.site.below HS.out.bel).rm hlt
      dsimp only at hra
      subst hra
      obtain ⟨p, hp⟩ : ∃ p, p = rmD S.rooms a := ⟨_, rfl⟩
      obtain ⟨c0, c1, c2, c3, c4, c5, c6, c7, c8, c9⟩ := hc
      rw [← hp] at c0 c1 c2 c3 c4 c5 c6 c7 c8 c9
      have HP := Lib.hid hp
      have p0 : (0 : Int) ≤ (a : Int) := by omega
      have p1 : (a : Int) < (S.rooms.length : Int) := by omega
      have w4 : IntKind.i64.wrap ((a : Int) + 1) = (a : Int) + 1 := IntWalk.i64_in _ (by omega)
      clear hp
      go_wp2_with (fail)
      refine wp_name ?_
      intro w4' h4
      obtain ⟨b9, hb9⟩ : ∃ b9, b9 = wr.heap.size := ⟨_, rfl⟩
      have hE4 : Ext2 wr w4' := by rw [h4]; exact below_alloc' _ _
      have y9 : w4'.heap[b9]? = some (Obj.cells #[.string p.name, .int .i64 p.tlo, .int .i64 p.thi, .int .i64 p.dlo, .int .i64 p.dhi, .bool p.people, .bool p.allows, .int .i64 p.most, .int .i64 p.x, .int .i64 p.y] 41) := by rw [h4, hb9]; exact blk_new _ _
      have HS4 := Lib.hid (HS.out.below hE4)
      have Y9 := Lib.hid y9
      have HO4 := Lib.hid (HO.out.below hE4)
      rw [← hb9]
      have e0 : ((a : Int) + 1) = ((a + 1 + 0 : Nat) : Int) := by omega
      have E0 := Lib.hid e0
      clear h4 hb9 c0 c1 c2 c3 c4 c5 c6 c7 c8 c9 y9 hE4 HO e0 HS
      obtain ⟨wo, hwo⟩ : ∃ wo, wo = wr := ⟨_, rfl⟩
      go_loopw [4, 10] (fun v z wr => ∃ j c : Nat, z = .int .i64 (c : Int) ∧ c = a + 1 + j ∧ c ≤ S.rooms.length ∧ NrSt w wr b b1 b2 am g cap ∧ wr.heap[b9]? = some (Obj.cells #[.string p.name, .int .i64 p.tlo, .int .i64 p.thi, .int .i64 p.dlo, .int .i64 p.dhi, .bool p.people, .bool p.allows, .int .i64 p.most, .int .i64 p.x, .int .i64 p.y] 41) ∧ OwnR wr w.heap.size 99 2 v (nearK S wh a ++ nearRow S wh a j).length (nrC (nearK S wh a ++ nearRow S wh a j))) (fun _ z _ => S.rooms.length - (intOf z).toNat)
      case atStart => exact ⟨0, _, by rw [E0.out], rfl, by omega, HS4.out, Y9.out, by simpa [nearRow] using HO4.out⟩
      case round =>
        obtain ⟨j, c, rfl, hcj, hcn, hE, y9, hO⟩ := hrel
        have HO := Lib.hid hO; have HCJ := Lib.hid hcj
        have HS := Lib.hid hE
        have y1 := hE.box1
        obtain ⟨M', k', hv'⟩ := (hE.box HV.out).vlt
        have x0' := hv'.blk
        clear hO hcj hv' hE
        by_cases hlt2 : c < S.rooms.length
        · obtain ⟨_, _, hra, hc⟩ := rm_cells (HV.out.site.below HS.out.bel).rm hlt2
          obtain ⟨rfl, rfl⟩ : rb = _ ∧ roff = _ := by simpa using hra
          obtain ⟨q, hq⟩ : ∃ q, q = rmD S.rooms c := ⟨_, rfl⟩
          obtain ⟨c0, c1, c2, c3, c4, c5, c6, c7, c8, c9⟩ := hc
          rw [← hq] at c0 c1 c2 c3 c4 c5 c6 c7 c8 c9
          have HQ := Lib.hid hq
          have z0 : (0 : Int) ≤ (c : Int) := by omega
          have z1 : (c : Int) < (S.rooms.length : Int) := by omega
          have z2 : IntKind.i64.wrap ((c : Int) + 1) = (c : Int) + 1 := IntWalk.i64_in _ (by omega)
          have px := HN.out.at_ a hlt
          have qx := HN.out.at_ c hlt2
          rw [← HP.out] at px
          rw [← hq] at qx
          clear hq hra
          obtain ⟨X, hX⟩ : ∃ X, X = (p.x - q.x) * (p.x - q.x) := ⟨_, rfl⟩
          obtain ⟨Y, hY⟩ : ∃ Y, Y = (p.y - q.y) * (p.y - q.y) := ⟨_, rfl⟩
          have bX := sq_in px.1 qx.1
          have bY := sq_in px.2 qx.2
          rw [← hX] at bX
          rw [← hY] at bY
          have wX : wrap64 ((p.x - q.x) * (p.x - q.x)) = X := by rw [← hX]; exact IntWalk.wrap64_in _ (by omega)
          have wY : wrap64 ((p.y - q.y) * (p.y - q.y)) = Y := by rw [← hY]; exact IntWalk.wrap64_in _ (by omega)
          have hF : far (rmD S.rooms a) (rmD S.rooms c) = X + Y := by rw [← HP.out, ← HQ.out, hX, hY]; rfl
          have HF := Lib.hid hF
          have l9 := blk_lt y9
          have n9 : ¬ b9 = wr.heap.size := by omega
          clear hX hY hF
          have q1c := cell_blk y1
          have q1f := frz_blk y1
          have q0c := cell_blk x0'
          have q0f := frz_blk x0'
          have q9c := cell_blk y9
          have q9f := frz_blk y9
          go_wp2_with (fail)
          clear q1c q1f q0c q0f q9c q9f
          refine calls_name ?_
          intro w5 h5
          have hE5 : Ext2 wr w5 := by rw [h5]; exact below_alloc' _ _
          have HS5 := Lib.hid (HS.out.below hE5)
          have y95 := Ext2.blk hE5 y9
          clear h5 c0 c1 c2 c3 c4 c5 c6 c7 c8 c9 x0' y1 y9 l9 n9
          (with_reducible refine (HKEEP.out _ a HS5.out hlt).mono ?_)
          rintro e w6 ⟨rfl, hb6⟩
          have HS6 := Lib.hid (HS5.out.below hb6)
          obtain ⟨K1, hK1⟩ : ∃ K1, K1 = met S (amt S wh a) := ⟨_, rfl⟩
          have bK1 := met_in HN.out.met (amt S wh a)
          rw [← hK1] at bK1 ⊢
          have HK1 := Lib.hid hK1
          clear hK1
          go_wp2_with (fail)
          (with_reducible refine (HKEEP.out _ c HS6.out hlt2).mono ?_)
          rintro e w7 ⟨rfl, hb7⟩
          have HS7 := Lib.hid (HS6.out.below hb7)
          have y97 := Ext2.blk (ext_trans hb6 hb7) y95
          obtain ⟨K2, hK2⟩ : ∃ K2, K2 = met S (amt S wh c) := ⟨_, rfl⟩
          have bK2 := met_in HN.out.met (amt S wh c)
          rw [← hK2] at bK2 ⊢
          obtain ⟨K, hK⟩ : ∃ K, K = max K1 K2 := ⟨_, rfl⟩
          have bK : 0 ≤ K ∧ K ≤ 10000 := by omega
          obtain ⟨KK, hKK⟩ : ∃ KK, KK = K * K := ⟨_, rfl⟩
          have bKK := sq_in' bK
          rw [← hKK] at bKK
          have wK : wrap64 (max K1 K2 * max K1 K2) = KK := by rw [← hK, ← hKK]; exact IntWalk.wrap64_in _ (by omega)
          have hNB2 : nearB S wh a c = ((risk S wh a c || risk S wh c a) && decide (X + Y < KK)) := by unfold nearB; rw [HF.out, ← HK1.out, ← hK2, ← hK, ← hKK]
          obtain ⟨r1, hr1⟩ : ∃ r, r = risk S wh a c := ⟨_, rfl⟩
          obtain ⟨r2, hr2⟩ : ∃ r, r = risk S wh c a := ⟨_, rfl⟩
          rw [← hr1, ← hr2] at hNB2
          have HB2 := Lib.hid hNB2
          have HR1 : Hid (∀ W, NrSt w W b b1 b2 am g cap → Calls Tryd.prog 78 #[.int .i64 (a : Int), .int .i64 (c : Int), .pointer (some ⟨b2, 0, none⟩), .pointer (some ⟨b1, 0, none⟩)] W fun e w' => e = .returned (.bool r1) ∧ W = w') := Lib.hid fun W hW => by rw [hr1]; exact HRISK.out W a c hlt hlt2 hW
          have HR2 : Hid (∀ W, NrSt w W b b1 b2 am g cap → Calls Tryd.prog 78 #[.int .i64 (c : Int), .int .i64 (a : Int), .pointer (some ⟨b2, 0, none⟩), .pointer (some ⟨b1, 0, none⟩)] W fun e w' => e = .returned (.bool r2) ∧ W = w') := Lib.hid fun W hW => by rw [hr2]; exact HRISK.out W c a hlt2 hlt hW
          have HO7 := Lib.hid (HO.out.below (ext_trans hE5 (ext_trans hb6 hb7)))
          have hE7B : Below w.heap.size w w7 := HS7.out.bel
          have hlen9 : (nearK S wh a ++ nearRow S wh a j).length ≤ 1000 := by
            rw [List.length_append]
            have h1 := nearK_len S wh a
            have h2 := nearRow_len S wh a j
            have h3 : a * S.rooms.length ≤ 12 * 12 := Nat.mul_le_mul (by omega) (by omega)
            have := HCJ.out
            omega
          clear hNB2 hr1 hr2 hKK hK hK2 HO hE5 hb6 hb7 y95 HS5 HS6 HS
          go_wp2_with (fail)
          (with_reducible refine (HR1.out _ HS7.out).mono ?_)
          rintro e w' ⟨rfl, rfl⟩
          by_cases hlt3 : X + Y < KK
          · have hd : decide (X + Y < KK) = true := decide_eq_true hlt3
            have HD := Lib.hid hd
            clear hd
            cases r1
            · go_wp2_with (fail)
              (with_reducible refine (HR2.out _ HS7.out).mono ?_)
              rintro e w' ⟨rfl, rfl⟩
              cases r2
              · skip
                have hO9 : OwnR w7 w.heap.size 99 2 u4 (nearK S wh a ++ nearRow S wh a (j + 1)).length (nrC (nearK S wh a ++ nearRow S wh a (j + 1))) := by
                  have e1 : nearK S wh a ++ nearRow S wh a (j + 1) = nearK S wh a ++ nearRow S wh a j := by
                    rw [nearRow, ← HCJ.out, HB2.out, HD.out]; simp
                  rw [e1]; exact HO7.out
                have HO9 := Lib.hid hO9
                clear hO9
                go_wp2_with (fail)
                go_roundw
                case rel => exact ⟨j + 1, c + 1, by go_num, by rw [HCJ.out]; omega, by omega, HS7.out, y97, HO9.out⟩
                case measure => simp [intOf]; omega
              · skip
                go_wp2_with (at_builtin; refine app_one [.int .i64 (a : Int), .int .i64 (c : Int)] elNr rfl _ _ rfl w.heap.size rfl (HO7.out.below (below_alloc' _ _)) w7.heap.size 1 rfl (blk_new _ _) (by simp [Value.oneCell']) (by omega) (by have := hE7B.size; simp; omega) ?_; intro v' w8 hO8 hg8)
                have HS8 := Lib.hid (HS7.out.app HO7.out hg8)
                have y98 := app_blk HO7.out hg8 y97 (by decide)
                have hO9 : OwnR w8 w.heap.size 99 2 v' (nearK S wh a ++ nearRow S wh a (j + 1)).length (nrC (nearK S wh a ++ nearRow S wh a (j + 1))) := by
                  have e1 : nearK S wh a ++ nearRow S wh a (j + 1) = (nearK S wh a ++ nearRow S wh a j) ++ [⟨(a : Int), (c : Int)⟩] := by
                    rw [nearRow, ← HCJ.out, HB2.out, HD.out]; simp
                  rw [e1, List.length_append, List.length_singleton]
                  exact hO8.congr fun i' j' h1 h2 => nrC_snoc (x := ⟨(a : Int), (c : Int)⟩) h1 h2
                have HO9 := Lib.hid hO9
                clear hO8 hO9 hg8
                go_wp2_with (fail)
                go_roundw
                case rel => exact ⟨j + 1, c + 1, by go_num, by rw [HCJ.out]; omega, by omega, HS8.out, y98, HO9.out⟩
                case measure => simp [intOf]; omega
            · skip
              go_wp2_with (at_builtin; refine app_one [.int .i64 (a : Int), .int .i64 (c : Int)] elNr rfl _ _ rfl w.heap.size rfl (HO7.out.below (below_alloc' _ _)) w7.heap.size 1 rfl (blk_new _ _) (by simp [Value.oneCell']) (by omega) (by have := hE7B.size; simp; omega) ?_; intro v' w8 hO8 hg8)
              have HS8 := Lib.hid (HS7.out.app HO7.out hg8)
              have y98 := app_blk HO7.out hg8 y97 (by decide)
              have hO9 : OwnR w8 w.heap.size 99 2 v' (nearK S wh a ++ nearRow S wh a (j + 1)).length (nrC (nearK S wh a ++ nearRow S wh a (j + 1))) := by
                have e1 : nearK S wh a ++ nearRow S wh a (j + 1) = (nearK S wh a ++ nearRow S wh a j) ++ [⟨(a : Int), (c : Int)⟩] := by
                  rw [nearRow, ← HCJ.out, HB2.out, HD.out]; simp
                rw [e1, List.length_append, List.length_singleton]
                exact hO8.congr fun i' j' h1 h2 => nrC_snoc (x := ⟨(a : Int), (c : Int)⟩) h1 h2
              have HO9 := Lib.hid hO9
              clear hO8 hO9 hg8
              go_wp2_with (fail)
              go_roundw
              case rel => exact ⟨j + 1, c + 1, by go_num, by rw [HCJ.out]; omega, by omega, HS8.out, y98, HO9.out⟩
              case measure => simp [intOf]; omega
          · have hd : decide (X + Y < KK) = false := decide_eq_false hlt3
            have HD := Lib.hid hd
            clear hd
            cases r1
            · go_wp2_with (fail)
              (with_reducible refine (HR2.out _ HS7.out).mono ?_)
              rintro e w' ⟨rfl, rfl⟩
              cases r2
              · skip
                have hO9 : OwnR w7 w.heap.size 99 2 u4 (nearK S wh a ++ nearRow S wh a (j + 1)).length (nrC (nearK S wh a ++ nearRow S wh a (j + 1))) := by
                  have e1 : nearK S wh a ++ nearRow S wh a (j + 1) = nearK S wh a ++ nearRow S wh a j := by
                    rw [nearRow, ← HCJ.out, HB2.out, HD.out]; simp
                  rw [e1]; exact HO7.out
                have HO9 := Lib.hid hO9
                clear hO9
                go_wp2_with (fail)
                go_roundw
                case rel => exact ⟨j + 1, c + 1, by go_num, by rw [HCJ.out]; omega, by omega, HS7.out, y97, HO9.out⟩
                case measure => simp [intOf]; omega
              · skip
                have hO9 : OwnR w7 w.heap.size 99 2 u4 (nearK S wh a ++ nearRow S wh a (j + 1)).length (nrC (nearK S wh a ++ nearRow S wh a (j + 1))) := by
                  have e1 : nearK S wh a ++ nearRow S wh a (j + 1) = nearK S wh a ++ nearRow S wh a j := by
                    rw [nearRow, ← HCJ.out, HB2.out, HD.out]; simp
                  rw [e1]; exact HO7.out
                have HO9 := Lib.hid hO9
                clear hO9
                go_wp2_with (fail)
                go_roundw
                case rel => exact ⟨j + 1, c + 1, by go_num, by rw [HCJ.out]; omega, by omega, HS7.out, y97, HO9.out⟩
                case measure => simp [intOf]; omega
            · skip
              have hO9 : OwnR w7 w.heap.size 99 2 u4 (nearK S wh a ++ nearRow S wh a (j + 1)).length (nrC (nearK S wh a ++ nearRow S wh a (j + 1))) := by
                have e1 : nearK S wh a ++ nearRow S wh a (j + 1) = nearK S wh a ++ nearRow S wh a j := by
                  rw [nearRow, ← HCJ.out, HB2.out, HD.out]; simp
                rw [e1]; exact HO7.out
              have HO9 := Lib.hid hO9
              clear hO9
              go_wp2_with (fail)
              go_roundw
              case rel => exact ⟨j + 1, c + 1, by go_num, by rw [HCJ.out]; omega, by omega, HS7.out, y97, HO9.out⟩
              case measure => simp [intOf]; omega
        · obtain rfl : c = S.rooms.length := by omega
          have hfin : OwnR wr w.heap.size 99 2 u4 (nearK S wh (a + 1)).length (nrC (nearK S wh (a + 1))) := by
            rw [nearK, show S.rooms.length - (a + 1) = j by have := HCJ.out; omega]; exact HO.out
          have HFIN := Lib.hid hfin
          have hz : ¬ (S.rooms.length : Int) < (S.rooms.length : Int) := by omega
          clear hfin HO
          have q1c := cell_blk y1
          have q1f := frz_blk y1
          have q0c := cell_blk x0'
          have q0f := frz_blk x0'
          go_wp2_with (fail)
          go_roundw
          case rel => exact ⟨a + 1, by go_num, by omega, HS.out, HFIN.out⟩
          case measure => simp [intOf]; omega
    · obtain rfl : a = S.rooms.length := by omega
      have hfin := HOUT.out wr u4 HO.out HS.out.bel
      have HFIN := Lib.hid hfin
      have hz : ¬ (S.rooms.length : Int) < (S.rooms.length : Int) := by omega
      clear hfin HO
      go_wp2_with (fail)
      go_ret
      exact HFIN.out
end Go.Proofs.YtkidicfpfknfoaaDoor
