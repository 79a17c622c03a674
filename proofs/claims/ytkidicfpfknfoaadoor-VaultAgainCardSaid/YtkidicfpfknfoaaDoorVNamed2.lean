/-
  named, of rooms and of cans.
-/
import Derived.Test.YtkidicfpfknfoaaDoorVNamed
namespace Go.Proofs.YtkidicfpfknfoaaDoor
open Go.RowKit D
set_option linter.unusedVariables false
set_option linter.unusedSimpArgs false
attribute [local go_sem high] run_minI run_maxI
attribute [local go_sem] upon2 cls_cell cls_frozen forall_const exists_eq_left'
attribute [local go_sem] FirstUpon run_makeMap
set_option maxRecDepth 100000 in
set_option maxHeartbeats 8000000 in
theorem namedR_any {S : Site} {s : SSl}  {w : World} (hS : SiteAt w S s) (hm : MaxAt w) (hn : S.rooms.length ≤ 30) :
    Calls Tryd.prog 41 #[.slice s.r.a S.rooms.length s.r.cap, .func (.func 42) #[] #[], .func (.func 43) #[] #[]] w fun e w' => e = .returned (.tuple #[.int .i64 (if fstR S < S.rooms.length then ((fstR S : Nat) : Int) else 0), .int .i64 (if fstR S < S.rooms.length then rmE S.rooms (fstR S) else 0)]) ∧ Below w.heap.size w w' := by
  have HS := Lib.hid hS; have HM := Lib.hid hm
  have hrl := hS.rm.le; have hrm := hS.rm.max
  obtain ⟨E1, hE1⟩ : ∃ E : Int, E = (if fstR S < S.rooms.length then ((fstR S : Nat) : Int) else 0) := ⟨_, rfl⟩
  obtain ⟨E2, hE2⟩ : ∃ E : Int, E = (if fstR S < S.rooms.length then rmE S.rooms (fstR S) else 0) := ⟨_, rfl⟩
  rw [← hE1, ← hE2]
  have HE1 := Lib.hid hE1; have HE2 := Lib.hid hE2
  obtain ⟨⟨ra, rc⟩, cs, ps⟩ := s
  dsimp only at hrl hrm
  clear hS hm hE1 hE2
  go_enter Tryd.func41, Tryd.ntmps41
  go_wp2_with (fail)
  refine wp_name ?_
  intro w1 h1
  obtain ⟨tb, htb⟩ : ∃ b, b = w.heap.size := ⟨_, rfl⟩
  have hB1 : Below w.heap.size w w1 := by rw [h1]; exact below_alloc _ _
  have hm1 : MapV K1 w1 tb (seenR S.rooms 0) := MapV.made K1 (c := 0) (by rw [h1, htb]; exact blk_new _ _)
  have HM1 := Lib.hid hm1
  have hle : w.heap.size ≤ tb := by omega
  rw [← htb]
  clear h1 htb hm1
  go_loopw [16] (fun z wr => ∃ k : Nat, z = .int .i64 (k : Int) ∧ k ≤ S.rooms.length ∧ Below w.heap.size w wr ∧ MapV K1 wr tb (seenR S.rooms k) ∧ ∀ j, j < k → (rmE S.rooms j != 0) = false) (fun z _ => S.rooms.length - (intOf z).toNat)
  case atStart => exact ⟨0, rfl, by omega, hB1, HM1.out, fun j hj => absurd hj (Nat.not_lt_zero j)⟩
  case round =>
    obtain ⟨k, rfl, hk, hB, hmv, hall⟩ := hrel
    have HALL := Lib.hid hall; have HMV := Lib.hid hmv
    have hmlt := hmv.lt
    clear hall hmv
    by_cases hlt : k < S.rooms.length
    · go_light
      obtain ⟨rb, roff, hra, hc⟩ := rm_cells (HS.out.below hB).rm hlt
      dsimp only at hra
      subst hra
      obtain ⟨x, hx⟩ : ∃ x, x = rmD S.rooms k := ⟨_, rfl⟩
      obtain ⟨c0, c1, c2, c3, c4, c5, c6, c7, c8, c9⟩ := hc
      rw [← hx] at c0 c1 c2 c3 c4 c5 c6 c7 c8 c9
      have HX := Lib.hid hx
      have HSZ : Hid (x.name.size ≤ maxLen) := Lib.hid (by rw [hx]; exact HS.out.rsize k hlt)
      have r0 : (0 : Int) ≤ (k : Int) := by omega
      have r1 : (k : Int) < (S.rooms.length : Int) := by omega
      have w3' : IntKind.i64.wrap ((k : Int) + 1) = (k : Int) + 1 := IntWalk.i64_in _ (by omega)
      clear hx
      go_wp2_with (fail)
      refine calls_name ?_
      intro w3 h3
      have hE3 : Ext2 wr w3 := by rw [h3]; exact below_alloc' _ _
      have x7 : w3.heap[wr.heap.size]? = some (Obj.cells #[.string x.name, .int .i64 x.tlo, .int .i64 x.thi, .int .i64 x.dlo, .int .i64 x.dhi, .bool x.people, .bool x.allows, .int .i64 x.most, .int .i64 x.x, .int .i64 x.y] 41) := by rw [h3]; exact blk_new _ _
      obtain ⟨b7, hb7⟩ : ∃ b, b = wr.heap.size := ⟨_, rfl⟩
      rw [← hb7] at x7 ⊢
      have X7 := Lib.hid x7
      have HM3 := Lib.hid (HMV.out.kept (hE3.block tb HMV.out.lt))
      have hB3 := below_ext hB hE3
      clear h3 c0 c1 c2 c3 c4 c5 c6 c7 c8 c9 hb7 x7 hE3 hB HMV hmlt
      (with_reducible refine (roomName_any _ _).mono ?_)
      rintro e w4 ⟨rfl, hb4⟩
      have HM4 := Lib.hid (HM3.out.kept (hb4.block tb HM3.out.lt))
      have hB4 := below_ext hB3 hb4
      have X74 := Lib.hid (Ext2.blk hb4 X7.out)
      go_wp2_with (fail)
      (with_reducible refine (nameP_any HSZ.out (HM.out.below hB4)).mono ?_)
      rintro e w5 ⟨rfl, hb5⟩
      have HM5 := Lib.hid (HM4.out.kept (hb5.block tb HM4.out.lt))
      have hB5 := below_ext hB4 hb5
      have X75 := Lib.hid (Ext2.blk hb5 X74.out)
      obtain ⟨vn, hvn⟩ : ∃ v, v = okName x.name := ⟨_, rfl⟩
      rw [← hvn]
      have HVN := Lib.hid hvn
      clear hvn hb4 hb5 HM3 HM4 hB3 hB4
      cases vn
      case false =>
        have hg : rmE S.rooms k = 6 := by unfold rmE; rw [← HX.out, ← HVN.out]; rfl
        have HG := Lib.hid hg
        clear hg
        have hf : fstR S = k := firstN_at HALL.out (by rw [HG.out]; rfl) hlt
        have HF := Lib.hid hf
        clear hf
        go_wp2_with (fail)
        go_ret2
        exact ⟨by rw [HE1.out, HE2.out, HF.out, if_pos hlt, if_pos hlt, HG.out]; first | done | rfl, hB5⟩
      case true =>
      have hlk := HM5.out.lookup keyT_str Tryd.underlying141 (zeroBool w5) (k := .string x.name) (k1_str _) false
      obtain ⟨tw, htw⟩ : ∃ t, t = twiceR S.rooms k := ⟨_, rfl⟩
      have hsa := seenR_at S.rooms x.name k
      rw [show anyF (fun j => sameS (rmD S.rooms j).name x.name) k = tw by rw [htw, HX.out]; rfl] at hsa
      rw [if_neg (by simp), hsa] at hlk
      have HTW := Lib.hid htw
      clear htw hsa
      cases tw
      case true =>
        have hg : rmE S.rooms k = 5 := by unfold rmE; rw [← HX.out, ← HVN.out, ← HTW.out]; rfl
        have HG := Lib.hid hg
        clear hg
        have hf : fstR S = k := firstN_at HALL.out (by rw [HG.out]; rfl) hlt
        have HF := Lib.hid hf
        clear hf
        go_wp2_with (fail)
        go_ret2
        exact ⟨by rw [HE1.out, HE2.out, HF.out, if_pos hlt, if_pos hlt, HG.out]; first | done | rfl, hB5⟩
      case false =>
      have x75 := X75.out
      have q7c := cell_blk x75
      have q7f := frz_blk x75
      go_wp2_with (fail)
      (with_reducible refine (room_any x _).mono ?_)
      rintro e w6 ⟨rfl, hb6⟩
      have HM6 := Lib.hid (HM5.out.kept (hb6.block tb HM5.out.lt))
      have hB6 := below_ext hB5 hb6
      have hg : rmE S.rooms k = roomE x := by unfold rmE; rw [← HX.out, ← HVN.out, ← HTW.out]; rfl
      obtain ⟨W9, hW9⟩ : ∃ W, W = roomE x := ⟨_, rfl⟩
      rw [← hW9] at hg ⊢
      have HG := Lib.hid hg
      clear hg hW9 q7c q7f x75 hb6 hlk HM5 hB5
      by_cases hz : W9 = 0
      · have hzb : (W9 != 0) = false := by simp [hz]
        have HZ := Lib.hid hz
        clear hz
        go_wp2_with (at_mapUpdate; refine wpList_store rfl _ _ _ 141 rfl 9 4 keyT_str Tryd.underlying141 tb rfl HM6.out (.string x.name) (.bool true) rfl rfl (k1_str _) ?_; intro o' hm')
        go_roundw
        case rel =>
          refine ⟨k + 1, by go_num, by omega, below_setObj hB6 hle o', ?_, fun j hj => ?_⟩
          · rw [seenR, ← HX.out]; exact hm'
          · rcases Nat.lt_or_ge j k with h | h
            · exact HALL.out j h
            · obtain rfl : j = k := by omega
              rw [HG.out, HZ.out]; rfl
        case measure => simp [intOf]; omega
      · have hzb : (W9 != 0) = true := by simp [hz]
        have HZ := Lib.hid hz
        have hf : fstR S = k := firstN_at HALL.out (by rw [HG.out]; exact hzb) hlt
        have HF := Lib.hid hf
        clear hf hz
        go_wp2_with (fail)
        go_ret2
        exact ⟨by rw [HE1.out, HE2.out, HF.out, if_pos hlt, if_pos hlt, HG.out]; first | done | rfl, hB6⟩
    · obtain rfl : k = S.rooms.length := by omega
      have hf : fstR S = S.rooms.length := firstN_none HALL.out
      have HF := Lib.hid hf
      have r9 : ¬ (S.rooms.length : Int) < (S.rooms.length : Int) := by omega
      clear hf HALL
      go_wp2_with (fail)
      go_ret2
      exact ⟨by rw [HE1.out, HE2.out, HF.out, if_neg (Nat.lt_irrefl _), if_neg (Nat.lt_irrefl _)]; first | done | rfl, hB⟩
set_option maxRecDepth 100000 in
set_option maxHeartbeats 8000000 in
theorem namedC_any {S : Site} {s : SSl} {b : Nat} {w : World} (hS : SiteAt w S s) (hm : MaxAt w) (hn : S.cans.length ≤ 30) (hb : w.heap[b]? = some (Obj.cells #[.slice s.r.a S.rooms.length s.r.cap, .slice s.c.a S.cans.length s.c.cap, .int .i64 S.rlo, .int .i64 S.rhi, .slice s.p.a S.steps.length s.p.cap] 28)) (hr : S.rooms.length ≤ 12) :
    Calls Tryd.prog 44 #[.slice s.c.a S.cans.length s.c.cap, .func (.func 45) #[] #[], .func (.func 46) #[] #[.pointer (some ⟨b, 0, none⟩)]] w fun e w' => e = .returned (.tuple #[.int .i64 (if fstC S < S.cans.length then ((fstC S : Nat) : Int) else 0), .int .i64 (if fstC S < S.cans.length then cnE S (fstC S) else 0)]) ∧ Below w.heap.size w w' := by
  have HS := Lib.hid hS; have HM := Lib.hid hm
  have hrl := hS.cn.le; have hrm := hS.cn.max
  obtain ⟨E1, hE1⟩ : ∃ E : Int, E = (if fstC S < S.cans.length then ((fstC S : Nat) : Int) else 0) := ⟨_, rfl⟩
  obtain ⟨E2, hE2⟩ : ∃ E : Int, E = (if fstC S < S.cans.length then cnE S (fstC S) else 0) := ⟨_, rfl⟩
  rw [← hE1, ← hE2]
  have HE1 := Lib.hid hE1; have HE2 := Lib.hid hE2
  have HBX := Lib.hid hb
  clear hb
  obtain ⟨rs, ⟨ca, cc⟩, ps⟩ := s
  dsimp only at hrl hrm
  clear hS hm hE1 hE2
  go_enter Tryd.func44, Tryd.ntmps44
  go_wp2_with (fail)
  refine wp_name ?_
  intro w1 h1
  obtain ⟨tb, htb⟩ : ∃ b, b = w.heap.size := ⟨_, rfl⟩
  have hB1 : Below w.heap.size w w1 := by rw [h1]; exact below_alloc _ _
  have hm1 : MapV K1 w1 tb (seenC S.cans 0) := MapV.made K1 (c := 0) (by rw [h1, htb]; exact blk_new _ _)
  have HM1 := Lib.hid hm1
  have hle : w.heap.size ≤ tb := by omega
  rw [← htb]
  clear h1 htb hm1
  go_loopw [16] (fun z wr => ∃ k : Nat, z = .int .i64 (k : Int) ∧ k ≤ S.cans.length ∧ Below w.heap.size w wr ∧ MapV K1 wr tb (seenC S.cans k) ∧ ∀ j, j < k → (cnE S j != 0) = false) (fun z _ => S.cans.length - (intOf z).toNat)
  case atStart => exact ⟨0, rfl, by omega, hB1, HM1.out, fun j hj => absurd hj (Nat.not_lt_zero j)⟩
  case round =>
    obtain ⟨k, rfl, hk, hB, hmv, hall⟩ := hrel
    have HALL := Lib.hid hall; have HMV := Lib.hid hmv
    have hmlt := hmv.lt
    clear hall hmv
    by_cases hlt : k < S.cans.length
    · go_light
      obtain ⟨rb, roff, hra, c0, c1, c2, c3⟩ := cn_cells (HS.out.below hB).cn hlt
      dsimp only at hra
      subst hra
      obtain ⟨x, hx⟩ : ∃ x, x = cnD S.cans k := ⟨_, rfl⟩
      rw [← hx] at c0 c1 c2 c3
      have HX := Lib.hid hx
      have HSZ : Hid (x.name.size ≤ maxLen) := Lib.hid (by rw [hx]; exact HS.out.csize k hlt)
      have r0 : (0 : Int) ≤ (k : Int) := by omega
      have r1 : (k : Int) < (S.cans.length : Int) := by omega
      have w3' : IntKind.i64.wrap ((k : Int) + 1) = (k : Int) + 1 := IntWalk.i64_in _ (by omega)
      clear hx
      go_wp2_with (fail)
      refine calls_name ?_
      intro w3 h3
      have hE3 : Ext2 wr w3 := by rw [h3]; exact below_alloc' _ _
      have x7 : w3.heap[wr.heap.size]? = some (Obj.cells #[.string x.name, .int .i64 x.base, .int .i64 x.frames, .int .i64 x.room] 36) := by rw [h3]; exact blk_new _ _
      obtain ⟨b7, hb7⟩ : ∃ b, b = wr.heap.size := ⟨_, rfl⟩
      rw [← hb7] at x7 ⊢
      have X7 := Lib.hid x7
      have HM3 := Lib.hid (HMV.out.kept (hE3.block tb HMV.out.lt))
      have hB3 := below_ext hB hE3
      clear h3 c0 c1 c2 c3 hb7 x7 hE3 hB HMV hmlt
      (with_reducible refine (canName_any _ _).mono ?_)
      rintro e w4 ⟨rfl, hb4⟩
      have HM4 := Lib.hid (HM3.out.kept (hb4.block tb HM3.out.lt))
      have hB4 := below_ext hB3 hb4
      have X74 := Lib.hid (Ext2.blk hb4 X7.out)
      go_wp2_with (fail)
      (with_reducible refine (nameP_any HSZ.out (HM.out.below hB4)).mono ?_)
      rintro e w5 ⟨rfl, hb5⟩
      have HM5 := Lib.hid (HM4.out.kept (hb5.block tb HM4.out.lt))
      have hB5 := below_ext hB4 hb5
      have X75 := Lib.hid (Ext2.blk hb5 X74.out)
      obtain ⟨vn, hvn⟩ : ∃ v, v = okName x.name := ⟨_, rfl⟩
      rw [← hvn]
      have HVN := Lib.hid hvn
      clear hvn hb4 hb5 HM3 HM4 hB3 hB4
      cases vn
      case false =>
        have hg : cnE S k = 6 := by unfold cnE; rw [← HX.out, ← HVN.out]; rfl
        have HG := Lib.hid hg
        clear hg
        have hf : fstC S = k := firstN_at HALL.out (by rw [HG.out]; rfl) hlt
        have HF := Lib.hid hf
        clear hf
        go_wp2_with (fail)
        go_ret2
        exact ⟨by rw [HE1.out, HE2.out, HF.out, if_pos hlt, if_pos hlt, HG.out]; first | done | rfl, hB5⟩
      case true =>
      have hlk := HM5.out.lookup keyT_str Tryd.underlying141 (zeroBool w5) (k := .string x.name) (k1_str _) false
      obtain ⟨tw, htw⟩ : ∃ t, t = twiceC S.cans k := ⟨_, rfl⟩
      have hsa := seenC_at S.cans x.name k
      rw [show anyF (fun j => sameS (cnD S.cans j).name x.name) k = tw by rw [htw, HX.out]; rfl] at hsa
      rw [if_neg (by simp), hsa] at hlk
      have HTW := Lib.hid htw
      clear htw hsa
      cases tw
      case true =>
        have hg : cnE S k = 5 := by unfold cnE; rw [← HX.out, ← HVN.out, ← HTW.out]; rfl
        have HG := Lib.hid hg
        clear hg
        have hf : fstC S = k := firstN_at HALL.out (by rw [HG.out]; rfl) hlt
        have HF := Lib.hid hf
        clear hf
        go_wp2_with (fail)
        go_ret2
        exact ⟨by rw [HE1.out, HE2.out, HF.out, if_pos hlt, if_pos hlt, HG.out]; first | done | rfl, hB5⟩
      case false =>
      have x75 := X75.out
      have q7c := cell_blk x75
      have q7f := frz_blk x75
      go_wp2_with (fail)
      (with_reducible refine (can_any (s := ⟨rs, ⟨some ⟨rb, roff, none⟩, cc⟩, ps⟩) (below_blk hB5 HBX.out (blk_lt HBX.out)) hr).mono ?_)
      rintro e w6 ⟨rfl, hb6⟩
      have HM6 := Lib.hid (HM5.out.kept (hb6.block tb HM5.out.lt))
      have hB6 := below_ext hB5 hb6
      have hg : cnE S k = canE S.rooms.length x := by unfold cnE; rw [← HX.out, ← HVN.out, ← HTW.out]; rfl
      obtain ⟨W9, hW9⟩ : ∃ W, W = canE S.rooms.length x := ⟨_, rfl⟩
      rw [← hW9] at hg ⊢
      have HG := Lib.hid hg
      clear hg hW9 q7c q7f x75 hb6 hlk HM5 hB5
      by_cases hz : W9 = 0
      · have hzb : (W9 != 0) = false := by simp [hz]
        have HZ := Lib.hid hz
        clear hz
        go_wp2_with (at_mapUpdate; refine wpList_store rfl _ _ _ 141 rfl 9 4 keyT_str Tryd.underlying141 tb rfl HM6.out (.string x.name) (.bool true) rfl rfl (k1_str _) ?_; intro o' hm')
        go_roundw
        case rel =>
          refine ⟨k + 1, by go_num, by omega, below_setObj hB6 hle o', ?_, fun j hj => ?_⟩
          · rw [seenC, ← HX.out]; exact hm'
          · rcases Nat.lt_or_ge j k with h | h
            · exact HALL.out j h
            · obtain rfl : j = k := by omega
              rw [HG.out, HZ.out]; rfl
        case measure => simp [intOf]; omega
      · have hzb : (W9 != 0) = true := by simp [hz]
        have HZ := Lib.hid hz
        have hf : fstC S = k := firstN_at HALL.out (by rw [HG.out]; exact hzb) hlt
        have HF := Lib.hid hf
        clear hf hz
        go_wp2_with (fail)
        go_ret2
        exact ⟨by rw [HE1.out, HE2.out, HF.out, if_pos hlt, if_pos hlt, HG.out]; first | done | rfl, hB6⟩
    · obtain rfl : k = S.cans.length := by omega
      have hf : fstC S = S.cans.length := firstN_none HALL.out
      have HF := Lib.hid hf
      have r9 : ¬ (S.cans.length : Int) < (S.cans.length : Int) := by omega
      clear hf HALL
      go_wp2_with (fail)
      go_ret2
      exact ⟨by rw [HE1.out, HE2.out, HF.out, if_neg (Nat.lt_irrefl _), if_neg (Nat.lt_irrefl _)]; first | done | rfl, hB⟩
end Go.Proofs.YtkidicfpfknfoaaDoor
