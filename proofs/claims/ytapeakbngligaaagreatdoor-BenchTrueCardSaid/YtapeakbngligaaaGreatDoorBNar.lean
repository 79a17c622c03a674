/-
  (*bench.table).narrow.
-/
import Derived.Test.YtapeakbngligaaaGreatDoorBGrp
import Derived.Test.YtapeakbngligaaaGreatDoorBPlB
namespace Go.Proofs.YtapeakbngligaaaGreatDoor
open Go.RowKit D
set_option linter.unusedVariables false
set_option linter.unusedSimpArgs false
attribute [local go_sem high] run_minI run_maxI
attribute [local go_sem] upon2 cls_cell cls_frozen forall_const exists_eq_left'
attribute [local go_sem] FirstUpon atBlk_cell
def NarOut (w : World) (al : List Grp) (sk : List Strike) (wr : List Int) (ok : Bool) (e : Ending) (w' : World) : Prop := (∃ (s1 s2 s3 : Sl) (hs : Nat → Sl), e = .returned (.tuple #[.slice s1.a al.length s1.cap, .slice s2.a sk.length s2.cap, .slice s3.a wr.length s3.cap, .bool ok]) ∧ GrpsS w' s1 hs al ∧ StrikesS w' s2 sk ∧ IntsS w' s3 wr) ∧ Below w.heap.size w w'
theorem gaps_in {N : List Note} (hN : ∀ x ∈ N, NoteOk x) {F : Nat} (hF : F ≤ 200000) : (∀ x ∈ (gapsN F N).1, GapIn x) ∧ (gapsN F N).1.length ≤ 200001 ∧ 0 < (gapsN F N).1.length := by
  have h := gapsN_ok hN F
  refine ⟨fun x hx => ?_, by have := h.len; omega, ?_⟩
  · have := h.mem x hx
    unfold GapIn; omega
  · unfold gapsN
    simp only
    split
    · simp
    · simp
theorem all_grp {l : List Grp} : l.all grpOk = true ↔ ∀ i, i < l.length → grpOk (grD l i) = true := by
  rw [List.all_eq_true]
  constructor
  · intro h i hi; exact h _ (gr_mem hi)
  · intro h g hg
    obtain ⟨i, hi, rfl⟩ := List.mem_iff_getElem.1 hg
    have := h i hi
    unfold grD at this
    rwa [List.getD_eq_getElem?_getD, List.getElem?_eq_getElem hi] at this
set_option maxRecDepth 100000 in
set_option maxHeartbeats 8000000 in
theorem narrow_any {T : Task} {t : TSl} {N : List Note} {ns : Sl} {B g F : Nat} {w : World} (hT : Tab w T t N ns B g F) :
    Calls Tryz.prog 25 #[.pointer (some ⟨B, 0, none⟩)] w (NarOut w (grpsV (footV T.reel.gauge) F N (gapsN F N).1 T.reel.marks T.whole).1 (gapsN F N).2 (grpsV (footV T.reel.gauge) F N (gapsN F N).1 T.reel.marks T.whole).2 ((grpsV (footV T.reel.gauge) F N (gapsN F N).1 T.reel.marks T.whole).1.all grpOk)) := by
  have HT := Lib.hid hT
  have hle := hT.le
  obtain ⟨hgi, hgl, hg0⟩ := gaps_in (F := F) (fun x hx => (hT.ok.note x hx).1) hle.2
  have hgps := gaps_any hT
  unfold GpsOut at hgps
  have hinv := grpsK_inv (foot := footV T.reel.gauge) (l := N) (gs := (gapsN F N).1) (frames := F) (ms := T.reel.marks) ⟨hT.ok.task.reel.nm, fun i hi => by have := hT.ok.task.reel.mark i hi; rw [hT.fr] at this; exact this, hT.ok.task.reel.up⟩ (by rcases foot_cases T.reel.gauge with h | h | h | h <;> omega) hle.2 T.reel.marks.length (Nat.le_refl _)
  have hlen : (grpsV (footV T.reel.gauge) F N (gapsN F N).1 T.reel.marks T.whole).1.length ≤ 61 ∧ (grpsV (footV T.reel.gauge) F N (gapsN F N).1 T.reel.marks T.whole).2.length ≤ 60 := by
    rw [grpsV_eq]
    have h1 := hinv.nall; have h2 := hinv.nwrong; have h3 := hT.ok.task.reel.nm
    simp only [List.length_append, List.length_singleton]; omega
  clear hinv
  obtain ⟨gs, hgs⟩ : ∃ g, g = (gapsN F N).1 := ⟨_, rfl⟩
  obtain ⟨sk, hsk⟩ : ∃ g, g = (gapsN F N).2 := ⟨_, rfl⟩
  rw [← hgs] at hgi hgl hg0 hlen; rw [← hgs, ← hsk] at hgps
  rw [← hgs, ← hsk]
  have HGR := Lib.hid fun (W : World) (s : Sl) (hW : Below w.heap.size w W) (hG : GapsS W s gs) => groups_any (hT.below hW) hG hgi hgl hg0
  obtain ⟨V, hV⟩ : ∃ V, V = grpsV (footV T.reel.gauge) F N gs T.reel.marks T.whole := ⟨_, rfl⟩
  rw [← hV] at HGR hlen ⊢
  obtain ⟨al, wr⟩ := V
  unfold GrpsOut at HGR
  dsimp only at HGR hlen ⊢
  obtain ⟨na, hna⟩ : ∃ n, n = al.length := ⟨_, rfl⟩
  obtain ⟨nk, hnk⟩ : ∃ n, n = sk.length := ⟨_, rfl⟩
  obtain ⟨nw, hnw⟩ : ∃ n, n = wr.length := ⟨_, rfl⟩
  obtain ⟨ok, hok⟩ : ∃ b, b = al.all grpOk := ⟨_, rfl⟩
  have HNA := Lib.hid hna; have HNK := Lib.hid hnk; have HNW := Lib.hid hnw; have HOK := Lib.hid hok
  rw [← hna, ← hnw] at HGR; rw [← hna, ← hnw] at hlen; rw [← hnk] at hgps
  have HGP := Lib.hid hgps
  rw [← hok]
  clear hT hgi hgl hg0 hgps hgs hsk hV hna hnk hnw hok
  go_enter Tryz.func25, Tryz.ntmps25
  go_wp2_with (fail)
  refine HGP.out.mono ?_
  rintro e w3 ⟨⟨s1, ⟨ska, skc⟩, rfl, hg, hk⟩, hE3⟩
  have HE3 := Lib.hid hE3; have HK3 := Lib.hid hk
  have HG3 := Lib.hid (HGR.out w3 s1 hE3 hg)
  clear hg hk hE3
  go_wp2_with (fail)
  refine HG3.out.mono ?_
  rintro e w4 ⟨⟨⟨ala, alc⟩, ⟨wra, wrc⟩, hs, rfl, hgr, hwr⟩, hE4⟩
  have HE4 := Lib.hid (ext_trans HE3.out hE4); have HK4 := Lib.hid (RowS.below HK3.out hE4); have HGS := Lib.hid hgr; have HWR := Lib.hid hwr
  have hcp := hgr.row.le; have hcm := hgr.row.max
  dsimp only at hcp hcm
  rw [← HNA.out] at hcp
  clear hgr hwr hE4 HK3 HE3
  go_wp2_with (fail)
  go_loopw [2, 3, 4, 24] (fun a2 a3 a4 iv wr => ∃ k : Nat, a2 = .slice ala na alc ∧ a3 = .slice ska nk skc ∧ a4 = .slice wra nw wrc ∧ iv = .int .i64 k ∧ k ≤ na ∧ Ext2 w4 wr ∧ ∀ i, i < k → grpOk (grD al i) = true) (fun _ _ _ i _ => na - (intOf i).toNat)
  case atStart => exact ⟨0, rfl, rfl, rfl, rfl, by omega, Below.refl _ _, fun i hi => absurd hi (Nat.not_lt_zero i)⟩
  case round =>
    obtain ⟨k, rfl, rfl, rfl, rfl, hk, hE, hall⟩ := hrel
    have HE := Lib.hid hE; have HA := Lib.hid hall
    clear hE hall
    by_cases hlt : k < na
    · go_light
      have hkl : k < al.length := by rw [← HNA.out]; exact hlt
      obtain ⟨b, off, hsa, c0, c1, c2⟩ := (HGS.out.below HE.out).cells hkl
      have hea := (HGS.out.below HE.out).each k hkl
      have hgo := HGS.out.ok k hkl
      dsimp only at hsa
      subst hsa
      obtain ⟨q, hq⟩ : ∃ q, q = grD al k := ⟨_, rfl⟩
      obtain ⟨⟨ha, hc⟩, hh⟩ : ∃ h, h = hs k := ⟨_, rfl⟩
      rw [← hq] at c0 c1 c2 hea hgo; rw [← hh] at c0 hea
      have HSM := Lib.hid fun (W : World) (hW : Ext2 wr W) => some_any (fn := 50) (lb := #[]) (p := fun _ => true) (hea.below hW) hgo.2.1 hgo.2.2 hgo.1 (enters_of Tryz.func50 (by kernel_rfl) rfl) (fun i W2 _ h2 => every_any _ W2)
      have hso := some_all q
      unfold someV at hso
      dsimp only at hso
      obtain ⟨R, hR⟩ : ∃ R, R = partG q fun _ => true := ⟨_, rfl⟩
      obtain ⟨v, hv⟩ : ∃ v, v = grpOk q := ⟨_, rfl⟩
      rw [hso] at HSM
      rw [← hR, ← hv] at HSM
      have HV := Lib.hid hv; have HQ := Lib.hid hq
      obtain ⟨n, hn⟩ : ∃ n, n = q.gaps.length := ⟨_, rfl⟩
      rw [← hn] at c0 HSM
      dsimp only at c0 HSM
      have h0 : (0 : Int) ≤ (k : Int) := by omega
      have h1 : (k : Int) < (na : Int) := by omega
      have w2' : IntKind.i64.wrap ((k : Int) + 1) = (k : Int) + 1 := IntWalk.i64_in _ (by omega)
      clear hq hh hea hgo hR hn hkl hso hv
      go_upto_region 6 with (fail)
      clear c0 c1 c2
      refine wp_name ?_
      intro w5 hw5
      obtain ⟨n9, hn9⟩ : ∃ n, n = wr.heap.size := ⟨_, rfl⟩
      have x9 : w5.heap[n9]? = some (.cells #[.slice ha n hc, .int .i64 q.is.lo, .int .i64 q.is.hi] 91 (0, 0)) := by rw [hw5, hn9]; exact blk_new _ _
      have hE5 : Ext2 wr w5 := by rw [hw5]; exact below_alloc' _ _
      have HE5 := Lib.hid hE5
      rw [← hn9]
      clear hw5 hn9 hE5
      have q9c := cell_blk x9
      have q9f := frz_blk x9
      clear x9
      go_wp2_with (fail)
      refine (HSM.out w5 HE5.out).mono ?_
      rintro e w6 ⟨rfl, hE6⟩
      have HE6 := Lib.hid (ext_trans HE5.out hE6)
      clear q9c q9f hE6
      cases v with
      | false =>
        have HN : Hid (ok = false) := Lib.hid (by
          rw [HOK.out]
          cases h : al.all grpOk
          · rfl
          · have := all_grp.1 h k (by rw [← HNA.out]; exact hlt)
            rw [← HQ.out, ← HV.out] at this; cases this)
        go_upto_region 7 with (fail)
        refine wp_name ?_
        intro w7 hw7
        have HE7 := Lib.hid (show Ext2 w6 w7 by rw [hw7]; exact below_alloc' _ _)
        clear hw7
        go_wp2_with (fail)
        have hb := ext_trans HE6.out HE7.out
        have hb4 := ext_trans HE.out hb
        refine bodyPost_ret (v := .tuple #[.slice (some ⟨b, off, none⟩) na alc, .slice ska nk skc, .slice wra nw wrc, .bool false]) (by simp [results, Tryz.results25, go_sem]) rfl ⟨⟨⟨some ⟨b, off, none⟩, alc⟩, ⟨ska, skc⟩, ⟨wra, wrc⟩, hs, by rw [HN.out, HNA.out, HNK.out, HNW.out], HGS.out.below hb4, RowS.below HK4.out hb4, RowS.below HWR.out hb4⟩, ext_trans HE4.out hb4⟩
      | true =>
        go_upto_region 7 with (fail)
        refine wp_name ?_
        intro w7 hw7
        have HE7 := Lib.hid (show Ext2 w6 w7 by rw [hw7]; exact below_alloc' _ _)
        clear hw7
        go_wp2_with (fail)
        go_roundw
        case rel => exact ⟨k + 1, rfl, rfl, rfl, by go_num, by omega, ext_trans HE.out (ext_trans HE6.out HE7.out), fun i hi => by
          rcases Nat.lt_or_ge i k with h | h
          · exact HA.out i h
          · obtain rfl : i = k := by omega
            rw [← HQ.out]; exact HV.out.symm⟩
        case measure => simp [intOf]; omega
    · obtain rfl : na = k := by omega
      have HN : Hid (ok = true) := Lib.hid (by rw [HOK.out]; exact all_grp.2 fun i hi => HA.out i (by rw [HNA.out]; exact hi))
      go_wp2_with (fail)
      refine bodyPost_ret (v := .tuple #[.slice ala na alc, .slice ska nk skc, .slice wra nw wrc, .bool true]) (by simp [results, Tryz.results25, go_sem]) rfl ⟨⟨⟨ala, alc⟩, ⟨ska, skc⟩, ⟨wra, wrc⟩, hs, by rw [HN.out, ← HNA.out, ← HNK.out, ← HNW.out], HGS.out.below HE.out, RowS.below HK4.out HE.out, RowS.below HWR.out HE.out⟩, ext_trans HE4.out HE.out⟩
end Go.Proofs.YtapeakbngligaaaGreatDoor
