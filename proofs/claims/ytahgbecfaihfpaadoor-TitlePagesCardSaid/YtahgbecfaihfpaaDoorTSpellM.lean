/-
  title.spell: the memoised closure.
  title.spell.
  The glyphs of a setting, where they begin, and its width, plain.
-/
import Derived.Test.YtahgbecfaihfpaaDoorTGrM
import Derived.Lib.SliceRun
import Derived.Laws.EntriesVeiled
namespace Go.Proofs.YtahgbecfaihfpaaDoor
open Go.RowKit D
set_option linter.unusedVariables false
set_option linter.unusedSimpArgs false
attribute [local go_sem high] run_minI run_maxI
attribute [local go_sem] upon2 cls_cell cls_frozen forall_const exists_eq_left'
attribute [local go_sem] FirstUpon
theorem ext_take (s : ByteArray) (k : Nat) : s.extract 0 k = baL (s.data.toList.take k) := by
  unfold baL
  apply ByteArray.ext
  apply Array.ext'
  simp
theorem ext_drop (s : ByteArray) (k : Nat) : (s.extract k s.size).data.toList = s.data.toList.drop k := by
  simp only [ByteArray.data_extract, Array.toList_extract, List.extract_eq_take_drop]
  exact List.take_of_length_le (by simp)
theorem ext_size (s : ByteArray) {k : Nat} (h : k ≤ s.size) : (s.extract k s.size).size = s.size - k := by simp
theorem zeroSl (w : World) : (zeroValue 26).run Tryd.prog w = .ok (.slice none 0 0) w := by kernel_rfl
theorem zeroInt (w : World) : (zeroValue 3).run Tryd.prog w = .ok (.int .i64 0) w := by kernel_rfl
theorem neq_nil (w : World) (a : Option Addr) (n c n' c' : Nat) : (binOp .neq 26 (.slice a n c) (.slice none n' c')).run Tryd.prog w = .ok (.bool (!a.isNone)) w := by
  have h := Lib.run_equalIn_slice_nil (P := Tryd.prog) w 9999 26 3 a n c n' c' (by kernel_rfl)
  simp only [binOp]
  simp [Op.equal, Op.maxDepth, h]
theorem app_cell (g : Nat) (l : List Nat) (i j : Nat) : intC ((g :: l).map Int.ofNat) (1 + i) j = intC (l.map Int.ofNat) i j := by
  rw [Nat.add_comm]; rfl
theorem app_zero (g : Nat) (l : List Nat) (i j : Nat) (h : i < 1) : intC ((g :: l).map Int.ofNat) i j = intC ((g :: l).map Int.ofNat) i j := rfl
/-- What the closure does. -/
def TryOut (w : World) (F : Font) (s : FSl) (R : Rul) (b gm km mb tb sb fb : Nat) (rest : ByteArray) (e : Ending) (w' : World) : Prop :=
  (∃ v, e = .returned v ∧ OptV w' (setS F rest.data.toList) v) ∧ (∃ f, KInv w' F s R b gm km mb tb sb fb f) ∧ Gr mb w w'
set_option maxRecDepth 100000 in
set_option maxHeartbeats 2000000 in
theorem try_hit {F : Font} {s : FSl} {R : Rul} {b gm km mb tb sb fb : Nat} {rest : ByteArray} {f : Value → Option Value} {w : World} {v : Value} (hK : KInv w F s R b gm km mb tb sb fb f) (hf : f (.string rest) = some v) :
    Calls Tryd.prog 83 #[.string rest, .pointer (some ⟨tb, 0, none⟩), .pointer (some ⟨sb, 0, none⟩), .pointer (some ⟨fb, 0, none⟩)] w (TryOut w F s R b gm km mb tb sb fb rest) := by
  have HK := Lib.hid hK
  have hlk := hK.map.lookup keyT_str Tryd.underlying148 (zeroSl w) (k1_str rest) true
  rw [if_pos rfl, hf] at hlk
  simp only [Option.getD_some, Option.isSome_some] at hlk
  have xt := hK.tb_
  have HV := Lib.hid (hK.known rest v hf)
  clear hK hf
  have qtc := cell_blk xt
  have qtf := frz_blk xt
  go_enter Tryd.func83, Tryd.ntmps83
  go_wp2_with (fail)
  go_ret
  exact ⟨⟨v, rfl, HV.out⟩, ⟨f, HK.out⟩, Gr.refl _ _⟩
theorem KInv.put {w : World} {F : Font} {s : FSl} {R : Rul} {b gm km mb tb sb fb : Nat} {f : Value → Option Value} {rest : ByteArray} {v : Value} {o : Obj} (h : KInv w F s R b gm km mb tb sb fb f) (hv : OptV w (setS F rest.data.toList) v)
    (hm : MapV K1 { w with heap := w.heap.setIfInBounds mb o } mb (updM f (.string rest) v)) : KInv { w with heap := w.heap.setIfInBounds mb o } F s R b gm km mb tb sb fb (updM f (.string rest) v) := by
  have hg : Gr mb w { w with heap := w.heap.setIfInBounds mb o } := (Gr.refl mb w).obj o
  have hi := h.map.isMap
  refine ⟨h.set.gr hi hg h.g1 h.g2, hg.blk hi h.tb_, hg.blk hi h.sb_, hg.blk hi h.fb_, hm, fun t u ht => ?_, ?_, h.g1, h.g2⟩
  · by_cases he : t = rest
    · subst he
      rw [updM_same] at ht
      simp only [Option.some.injEq] at ht
      rw [← ht]; exact hv.gr hi hg
    · rw [updM_other (fun e => he (by simpa using e))] at ht
      exact (h.known t u ht).gr hi hg
  · obtain ⟨u, hu⟩ := h.empty
    by_cases he : ByteArray.empty = rest
    · subst he; exact ⟨v, updM_same _ _ _⟩
    · exact ⟨u, by rw [updM_other (fun e => he (by simpa using e))]; exact hu⟩
set_option maxRecDepth 100000 in
set_option maxHeartbeats 8000000 in
theorem try_any {F : Font} {s : FSl} {R : Rul} {b gm km mb tb sb fb : Nat} (hnt : ∀ i, i < F.glyphs.length → twice F.glyphs i = false) (hng : F.glyphs.length ≤ 60) : ∀ (n : Nat) (rest : ByteArray) (f : Value → Option Value) (w : World), rest.size ≤ n → rest.size ≤ 24 → KInv w F s R b gm km mb tb sb fb f →
    Calls Tryd.prog 83 #[.string rest, .pointer (some ⟨tb, 0, none⟩), .pointer (some ⟨sb, 0, none⟩), .pointer (some ⟨fb, 0, none⟩)] w (TryOut w F s R b gm km mb tb sb fb rest)
  | 0, rest, f, w, hn, h24, hK => by
    obtain ⟨v, hv⟩ := hK.empty
    have : rest = ByteArray.empty := by
      apply ByteArray.ext; apply Array.ext'
      have h0 : rest.size = 0 := by omega
      exact List.length_eq_zero_iff.1 (by simpa using h0)
    subst this
    exact try_hit hK hv
  | n + 1, rest, f, w, hn, h24, hK => by
    have HK := Lib.hid hK
    have hlk := hK.map.lookup keyT_str Tryd.underlying148 (zeroSl w) (k1_str rest) true
    rw [if_pos rfl] at hlk
    have xt := hK.tb_
    have HIH := Lib.hid (try_any (s := s) (R := R) (b := b) (gm := gm) (km := km) (mb := mb) (tb := tb) (sb := sb) (fb := fb) hnt hng n)
    have HNT := Lib.hid hnt
    cases hf : f (.string rest) with
    | some v => exact try_hit HK.out hf
    | none =>
      rw [hf] at hlk
      simp only [Option.getD_none, Option.isSome_none] at hlk
      have hne : rest.data.toList ≠ [] := fun h => by
        obtain ⟨v, hv⟩ := hK.empty
        have : rest = ByteArray.empty := by apply ByteArray.ext; apply Array.ext'; simpa using h
        rw [this, hv] at hf; cases hf
      have hsz : 0 < rest.size := by
        rcases Nat.eq_zero_or_pos rest.size with h | h
        · exact absurd (List.length_eq_zero_iff.1 (by simpa using h)) hne
        · exact h
      have HNE := Lib.hid hne
      have hmin : min (3 : Int) (rest.size : Int) = ((min 3 rest.size : Nat) : Int) := by omega
      obtain ⟨k0, hk0⟩ : ∃ k, k = min 3 rest.size := ⟨_, rfl⟩
      rw [← hk0] at hmin
      have HK0 := Lib.hid hk0
      clear hK hf hne hnt hk0
      have qtc := cell_blk xt
      have qtf := frz_blk xt
      go_enter Tryd.func83, Tryd.ntmps83
      go_wp2_with (fail)
      clear hlk qtc qtf xt
      go_loopw [9, 8] (fun p v wr => ∃ k : Nat, p = .int .i64 (k : Int) ∧ k ≤ k0 ∧ OptV wr (goS F rest.data.toList k) v ∧ (∃ f', KInv wr F s R b gm km mb tb sb fb f') ∧ Gr mb w wr) (fun p _ _ => (intOf p).toNat)
      case atStart => exact ⟨k0, rfl, Nat.le_refl _, by rw [goS_start F (k := k0) (by rw [HK0.out]; congr 1)]; rfl, ⟨f, HK.out⟩, Gr.refl _ _⟩
      case round =>
        obtain ⟨k, rfl, hk, hv, ⟨f1, hK1⟩, hG⟩ := hrel
        have HV := Lib.hid hv; have HK1 := Lib.hid hK1; have HG := Lib.hid hG
        clear hv hK1 hG
        by_cases hlt : 0 < k
        · go_light
          have hk3 : k ≤ 3 := by have := HK0.out; omega
          have hks : k ≤ rest.size := by have := HK0.out; omega
          have xsb := HK1.out.sb_
          have xst := HK1.out.set.blk
          have hgl : ∀ x : Cls (Ext2 wr), (Instr.lookup 104 (.map (some gm)) (.string (rest.extract 0 k)) true).run Tryd.prog x.1 = _ := fun x => (HK1.out.set.gl.kept (Below.block x.2 gm HK1.out.set.gl.lt)).lookup keyT_str Tryd.underlying104 (zeroInt x.1) (k1_str (rest.extract 0 k)) true
          rw [if_pos rfl, gmF_at _ _ HNT.out, ext_take] at hgl
          obtain ⟨g, hg⟩ : ∃ g, g = gIx F.glyphs (baL (rest.data.toList.take k)) F.glyphs.length := ⟨_, rfl⟩
          rw [← hg] at hgl
          have hstep : goS F rest.data.toList (k - 1) = if g < F.glyphs.length then better g (setS F (rest.data.toList.drop k)) (goS F rest.data.toList k) else goS F rest.data.toList k := by
            rw [goS_step F _ hlt hk3]
            unfold candS
            rw [if_pos (by simpa using hks), ← hg]
          have HST := Lib.hid hstep
          rw [← ext_take] at hgl
          have r0 : (0 : Int) ≤ (k : Int) := by omega
          have r1 : (0 : Int) < (k : Int) := by omega
          have r2 : (k : Int) ≤ (rest.size : Int) := by omega
          have w3' : IntKind.i64.wrap ((k : Int) - 1) = ((k - 1 : Nat) : Int) := Eq.trans (IntWalk.i64_in _ (by omega)) (by omega)
          clear hstep hg
          have qsc := cell_blk xsb
          have qsf := frz_blk xsb
          have qtc := cell_blk xst
          have qtf := frz_blk xst
          by_cases hgn : g < F.glyphs.length
          · rw [if_pos hgn] at hgl
            simp only [Option.getD_some, Option.isSome_some] at hgl
            have HGN := Lib.hid hgn
            go_wp2_with (fail)
            refine region_ev [] [0, 1, 2, 3, 4, 5, 6, 7, 8, 9, 10, 11, 12] [] [] (by kernel_rfl) (by kernel_rfl) (by intro c a d v w h; cases d <;> exact h) ?_
            simp only [picks, List.drop_succ_cons, List.drop_zero]
            repeat (refine wpQ0_step (fun K hK => ?_); go_simp; (refine hK _ ?_; clear hK K))
            refine wpQ0_nil ?_
            repeat ((with_reducible refine wpQ2_step (fun K hK => ?_)); go_simp; first | ((with_reducible refine hK _ ?_); clear hK K) | (apply Exists.intro; refine ⟨fun x => ?_, hK _ ?_⟩; (fail); clear hK K))
            refine wpQ2_nil ?_
            refine Events.none_ fun w2 hg2 => ?_
            simp only [picks, List.drop_succ_cons, List.drop_zero]
            have xfb := Ext2.blk hg2 HK1.out.fb_
            have HK2 := Lib.hid (HK1.out.ext hg2)
            have HV2 := Lib.hid (HV.out.below hg2)
            have HG2 := Lib.hid (HG.out.ext hg2)
            clear qsc qsf qtc qtf hgl xsb xst HK1 HV HG hg2
            have qfc := cell_blk xfb
            have qff := frz_blk xfb
            go_wp2_with (fail)
            refine region_ev [] [0, 1, 2, 3] [] [4, 5] (by kernel_rfl) (by kernel_rfl) (by intro c a d v w h; cases d <;> exact h) ?_
            simp only [picks, List.drop_succ_cons, List.drop_zero]
            repeat (refine wpQ0_step (fun K hK => ?_); go_simp; (refine hK _ ?_; clear hK K))
            refine wpQ0_nil ?_
            repeat ((with_reducible refine wpQ2_step (fun K hK => ?_)); go_simp; first | ((with_reducible refine hK _ ?_); clear hK K) | (apply Exists.intro; refine ⟨fun x => ?_, hK _ ?_⟩; (fail); clear hK K))
            refine wpQ2_nil ?_
            refine Events.none_ fun w3 hg3 => ?_
            simp only [picks, List.drop_succ_cons, List.drop_zero]
            have HK3 := Lib.hid (HK2.out.ext hg3)
            have HV3 := Lib.hid (HV2.out.below hg3)
            have HG3 := Lib.hid (HG2.out.ext hg3)
            have hes := ext_size rest hks
            have HC := Lib.hid (HIH.out (rest.extract k rest.size) f1 w3 (by rw [hes]; omega) (by rw [hes]; omega) HK3.out)
            clear qfc qff xfb HK2 HV2 HG2 hg3 hes
            go_wp2_with (fail)
            (with_reducible refine HC.out.mono ?_)
            rintro e w4 ⟨⟨v4, rfl, hv4⟩, ⟨f2, hK4⟩, hG4⟩
            have HV4 := Lib.hid (HV3.out.gr HK3.out.map.isMap hG4)
            have HK4 := Lib.hid hK4
            have HG4 := Lib.hid (HG3.out.trans hG4)
            rw [ext_drop] at hv4
            clear hK4 hG4 HK3 HV3 HG3 HC
            have q1 : ∀ (w : World) (a : Option Addr) (n c n' c' : Nat), (binOp .eql 26 (.slice a n c) (.slice none n' c')).run Tryd.prog w = .ok (.bool a.isNone) w := fun w a n c n' c' => Lib.run_eql_slice_nil w 26 3 a n c n' c' (by kernel_rfl)
            have q2 := neq_nil
            obtain ⟨r, hr⟩ : ∃ r, r = setS F (rest.data.toList.drop k) := ⟨_, rfl⟩
            have hrl : ∀ l, r = some l → l.length ≤ 24 := fun l hl => by
              have := setS_len F _ _ (Nat.le_refl _) l (hr ▸ hl)
              rw [List.length_drop] at this; simp at this; omega
            have hst := HST.out
            rw [← hr] at hv4 hst
            rw [if_pos HGN.out] at hst
            have HS := Lib.hid hst
            obtain ⟨o, ho⟩ : ∃ o, o = goS F rest.data.toList k := ⟨_, rfl⟩
            have hvo := HV4.out
            have hol : ∀ l, o = some l → l.length ≤ 24 := fun l hl => by
              have := goS_len F k (l := l) (ho ▸ hl)
              simp at this; omega
            rw [← ho] at hvo
            have hst2 : goS F rest.data.toList (k - 1) = better g r o := by rw [HS.out, ho]
            have HB := Lib.hid hst2
            clear hst hst2 hr ho HST HS
            cases r with
            | none =>
              obtain rfl : v4 = .slice none 0 0 := hv4
              have hbn : better g none o = o := rfl
              have HBN := Lib.hid hbn
              have HVO := Lib.hid hvo
              clear hbn hvo
              go_wp2_with (fail)
              go_roundw
              case rel => exact ⟨k - 1, rfl, by omega, by rw [HB.out, HBN.out]; exact HVO.out, ⟨f2, HK4.out⟩, HG4.out⟩
              case measure => simp [intOf]; omega
            | some l =>
              obtain ⟨lb, loff, lcap, rfl, hli⟩ := hv4
              have hl24 := hrl l rfl
              have HLC : Hid (∀ i j, i < l.length → j < 1 → w4.cell? ⟨lb, loff + i * 1 + j, none⟩ = some (intC (l.map Int.ofNat) i j)) := Lib.hid fun i j hi hj => by
                obtain ⟨b', off', ha', hc'⟩ := hli.1.cell i j (by rw [ints_len]; exact hi) hj
                obtain ⟨rfl, rfl⟩ : lb = b' ∧ loff = off' := by simpa using ha'
                exact hc'
              have HVO := Lib.hid hvo
              have wl : IntKind.i64.wrap ((l.length : Int) + 1) = (l.length : Int) + 1 := IntWalk.i64_in _ (by omega)
              clear hli hrl
              cases o with
              | none =>
                obtain rfl : u8 = .slice none 0 0 := hvo
                have hbn : better g (some l) none = some (g :: l) := rfl
                have HBN := Lib.hid hbn
                clear hbn hol
                go_wp2_with (at_builtin; go_loud (refine app_rows elInt (c2 := intC ((g :: l).map Int.ofNat)) rfl _ _ rfl w4.heap.size rfl (own_one w4 (Nat.le_refl _) 3 (.int .i64 (g : Int)) (intC ((g :: l).map Int.ofNat)) rfl) lb loff l.length lcap rfl (fun i j hi hj => by rw [Below.cell (below_alloc' w4 _) (cell_lt (HLC.out i j hi hj))]; exact HLC.out i j hi hj) (fun i j => rfl) (by omega) (by simp) (fun i j hi hj => app_zero g l i j hi) (fun i j hi hj => app_cell g l i j) ?_; intro v5 w5 hO5 hg5))
                have HE5 := app_below (Below.refl _ _) (own_one w4 (Nat.le_refl _) 3 (.int .i64 (g : Int)) (intC ((g :: l).map Int.ofNat)) rfl) (Nat.le_refl _) (by simp) hg5
                have hE5 : Ext2 w4 w5 := Below.trans (below_alloc' _ _) (HE5.mono (by simp))
                obtain ⟨nb, ncap, rfl, -⟩ := own_some hO5 (by omega)
                have hO := own_rowA hO5
                have hOT := own_ty hO5
                have hov : OptV w5 (some (g :: l)) (.slice (some ⟨nb, 0, none⟩) (1 + l.length) ncap) := ⟨nb, 0, ncap, by rw [List.length_cons, Nat.add_comm], by
                  refine ⟨?_, hOT⟩
                  unfold IntsS
                  rw [ints_len, List.length_cons, Nat.add_comm]; exact hO⟩
                have HOV := Lib.hid hov
                have HK5 := Lib.hid (HK4.out.ext hE5); have HG5 := Lib.hid (HG4.out.ext hE5)
                clear hO5 hg5 HE5 hO hOT hov hE5
                go_roundw
                case rel => exact ⟨k - 1, rfl, by omega, by rw [HB.out, HBN.out]; exact HOV.out, ⟨f2, HK5.out⟩, HG5.out⟩
                case measure => simp [intOf]; omega
              | some bl =>
                obtain ⟨ob, ooff, ocap, rfl, hoi⟩ := HVO.out
                have ho24 := hol bl rfl
                by_cases hsh : l.length + 1 < bl.length
                · have hbn : better g (some l) (some bl) = some (g :: l) := if_pos hsh
                  have HBN := Lib.hid hbn
                  have hd : decide ((l.length : Int) + 1 < (bl.length : Int)) = true := decide_eq_true (by omega)
                  clear hbn hol hoi hvo hsh
                  go_wp2_with (at_builtin; go_loud (refine app_rows elInt (c2 := intC ((g :: l).map Int.ofNat)) rfl _ _ rfl w4.heap.size rfl (own_one w4 (Nat.le_refl _) 3 (.int .i64 (g : Int)) (intC ((g :: l).map Int.ofNat)) rfl) lb loff l.length lcap rfl (fun i j hi hj => by rw [Below.cell (below_alloc' w4 _) (cell_lt (HLC.out i j hi hj))]; exact HLC.out i j hi hj) (fun i j => rfl) (by omega) (by simp) (fun i j hi hj => app_zero g l i j hi) (fun i j hi hj => app_cell g l i j) ?_; intro v5 w5 hO5 hg5))
                  have HE5 := app_below (Below.refl _ _) (own_one w4 (Nat.le_refl _) 3 (.int .i64 (g : Int)) (intC ((g :: l).map Int.ofNat)) rfl) (Nat.le_refl _) (by simp) hg5
                  have hE5 : Ext2 w4 w5 := Below.trans (below_alloc' _ _) (HE5.mono (by simp))
                  obtain ⟨nb, ncap, rfl, -⟩ := own_some hO5 (by omega)
                  have hO := own_rowA hO5
                  have hOT := own_ty hO5
                  have hov : OptV w5 (some (g :: l)) (.slice (some ⟨nb, 0, none⟩) (1 + l.length) ncap) := ⟨nb, 0, ncap, by rw [List.length_cons, Nat.add_comm], by
                    refine ⟨?_, hOT⟩
                    unfold IntsS
                    rw [ints_len, List.length_cons, Nat.add_comm]; exact hO⟩
                  have HOV := Lib.hid hov
                  have HK5 := Lib.hid (HK4.out.ext hE5); have HG5 := Lib.hid (HG4.out.ext hE5)
                  clear hO5 hg5 HE5 hO hOT hov hE5
                  go_roundw
                  case rel => exact ⟨k - 1, rfl, by omega, by rw [HB.out, HBN.out]; exact HOV.out, ⟨f2, HK5.out⟩, HG5.out⟩
                  case measure => simp [intOf]; omega
                · have hbn : better g (some l) (some bl) = some bl := if_neg hsh
                  have HBN := Lib.hid hbn
                  have hd : decide ((l.length : Int) + 1 < (bl.length : Int)) = false := decide_eq_false (by omega)
                  clear hbn hol hoi hvo hsh
                  go_wp2_with (fail)
                  go_roundw
                  case rel => exact ⟨k - 1, rfl, by omega, by rw [HB.out, HBN.out]; exact HVO.out, ⟨f2, HK4.out⟩, HG4.out⟩
                  case measure => simp [intOf]; omega
          · rw [if_neg hgn] at hgl
            simp only [Option.getD_none, Option.isSome_none] at hgl
            have HGN := Lib.hid hgn
            go_wp2_with (fail)
            refine region_ev [] [0, 1, 2, 3, 4, 5, 6, 7, 8, 9, 10, 11, 12] [] [] (by kernel_rfl) (by kernel_rfl) (by intro c a d v w h; cases d <;> exact h) ?_
            simp only [picks, List.drop_succ_cons, List.drop_zero]
            repeat (refine wpQ0_step (fun K hK => ?_); go_simp; (refine hK _ ?_; clear hK K))
            refine wpQ0_nil ?_
            repeat ((with_reducible refine wpQ2_step (fun K hK => ?_)); go_simp; first | ((with_reducible refine hK _ ?_); clear hK K) | (apply Exists.intro; refine ⟨fun x => ?_, hK _ ?_⟩; (fail); clear hK K))
            refine wpQ2_nil ?_
            refine Events.none_ fun w2 hg2 => ?_
            simp only [picks, List.drop_succ_cons, List.drop_zero]
            have HK2 := Lib.hid (HK1.out.ext hg2)
            have HV2 := Lib.hid (HV.out.below hg2)
            have HG2 := Lib.hid (HG.out.ext hg2)
            have hst := HST.out
            rw [if_neg HGN.out] at hst
            have HS := Lib.hid hst
            clear qsc qsf qtc qtf hgl xsb xst HK1 HV HG hg2 hst
            go_wp2_with (fail)
            go_roundw
            case rel => exact ⟨k - 1, rfl, by omega, by rw [HS.out]; exact HV2.out, ⟨f1, HK2.out⟩, HG2.out⟩
            case measure => simp [intOf]; omega
        · obtain rfl : k = 0 := by omega
          have hend := goS_end F HNE.out
          have hv0 := HV.out
          rw [hend] at hv0
          have HV0 := Lib.hid hv0
          have xt := HK1.out.tb_
          clear hend hv0
          have qtc := cell_blk xt
          have qtf := frz_blk xt
          go_wp2_with (at_mapUpdate; refine wpList_store rfl _ _ _ 148 rfl 9 26 keyT_str Tryd.underlying148 mb rfl HK1.out.map (.string rest) u8 rfl rfl (k1_str _) ?_; intro o' hm')
          go_ret
          have hi := HK1.out.map.isMap
          exact ⟨⟨u8, rfl, HV0.out.gr hi ((Gr.refl mb wr).obj o')⟩, ⟨_, HK1.out.put HV0.out hm'⟩, HG.out.obj o'⟩
end Go.Proofs.YtahgbecfaihfpaaDoor
namespace Go.Proofs.YtahgbecfaihfpaaDoor
open Go.RowKit D
set_option linter.unusedVariables false
set_option linter.unusedSimpArgs false
attribute [local go_sem high] run_minI run_maxI
attribute [local go_sem] upon2 cls_cell cls_frozen forall_const exists_eq_left'
attribute [local go_sem] FirstUpon run_makeMap
/-- What spell returns. -/
def SpellOut (w : World) (F : Font) (t : ByteArray) (e : Ending) (w' : World) : Prop := (∃ v, e = .returned (.tuple #[v, .bool (setS F t.data.toList).isSome]) ∧ OptV w' (setS F t.data.toList) v) ∧ Below w.heap.size w w'
set_option maxRecDepth 100000 in
set_option maxHeartbeats 2000000 in
theorem spell_any {F : Font} {s : FSl} {R : Rul} {b gm km : Nat} {t : ByteArray} {w : World} (hS : SetAt w F s R b gm km) (hk : FontOk F) (h24 : t.size ≤ 24) :
    Calls Tryd.prog 73 #[.pointer (some ⟨b, 0, none⟩), .string t] w (SpellOut w F t) := by
  have HS := Lib.hid hS
  have hnt : ∀ i, i < F.glyphs.length → twice F.glyphs i = false := fun i hi => (glE_wide (hk.gl i hi)).1.2.1
  have HNT := Lib.hid hnt
  have hng := hk.ng
  have hgl := hS.gl.lt
  have hkl := hS.kn.lt
  clear hS hk hnt
  go_enter Tryd.func73, Tryd.ntmps73
  go_wp2_with (fail)
  generalize hW : (((w.alloc (Obj.cells #[Value.pointer (some { block := b, off := 0 })] 85)).alloc (Obj.map #[] 0)).alloc (Obj.cells #[] 3)) = w3
  have hz3 : w3.heap.size = w.heap.size + 1 + 1 + 1 := by rw [← hW]; simp
  have hE3 : Ext2 w w3 := by rw [← hW]; exact ((below_alloc' w _).alloc (by simp) _).alloc (by simp; omega) _
  have x2 : w3.heap[w.heap.size]? = some (Obj.cells #[Value.pointer (some { block := b, off := 0 })] 85) := by rw [← hW]; exact blk_alloc (blk_alloc (blk_new _ _) _) _
  have xe : w3.heap[w.heap.size + 1 + 1]? = some (Obj.cells #[] 3) := by rw [← hW]; exact blk_new' _ _ (by simp)
  have hm0 : MapV K1 w3 (w.heap.size + 1) (fun _ => none) := MapV.made K1 (c := 0) (by rw [← hW]; exact blk_alloc (blk_new' _ _ (by simp)) _)
  obtain ⟨o', hrun, hm'⟩ := hm0.store (P := Tryd.prog) keyT_str Tryd.underlying148 (k1_str ⟨#[]⟩) (.slice (some ⟨w.heap.size + 1 + 1, 0, none⟩) 0 0)
  rw [hrun]
  obtain ⟨mb, hmb⟩ : ∃ m, m = w.heap.size + 1 := ⟨_, rfl⟩
  have hG : Gr mb w3 { w3 with heap := w3.heap.setIfInBounds mb o' } := (Gr.refl mb w3).obj o'
  rw [← hmb] at hm0 hm' ⊢
  have hi := hm0.isMap
  obtain ⟨w4, hw4⟩ : ∃ w4 : World, w4 = { w3 with heap := w3.heap.setIfInBounds mb o' } := ⟨_, rfl⟩
  rw [← hw4] at hm' hG ⊢
  have hz4 : w4.heap.size = w.heap.size + 1 + 1 + 1 := by rw [hw4, setObj_size, hz3]
  have y2 : w4.heap[w.heap.size]? = some _ := hG.blk hi x2
  have ye : w4.heap[w.heap.size + 1 + 1]? = some _ := hG.blk hi xe
  have hS4 : SetAt w4 F s R b gm km := (HS.out.below hE3).gr hi hG (by omega) (by omega)
  have hB4 : Below w.heap.size w w4 := hG.below hE3 (by omega) (by omega)
  have H2 := Lib.hid y2; have HE := Lib.hid ye; have HS4 := Lib.hid hS4; have HM := Lib.hid hm'
  clear hW hrun hw4 x2 xe hm0 hE3 hG hi y2 ye hS4 hm' hz3
  have HZ4 := Lib.hid hz4; have HMB := Lib.hid hmb
  clear hz4 hmb
  go_wp2_with (fail)
  refine calls_name ?_
  intro w5 h5
  have hE5 : Ext2 w4 w5 := by rw [h5]; repeat' (first | exact Below.refl _ _ | assumption | refine below_drewN ?_ _ | refine Below.drew ?_ | refine Below.alloc ?_ (by first | assumption | omega | (simp <;> omega)) _ | refine Below.setCell ?_ (by first | assumption | omega | (simp <;> omega)) _ | refine Ext2.on (by assumption) ?_)
  have z6 : w5.heap[w4.heap.size]? = some (Obj.cells #[.map (some mb)] 148) := by rw [h5]; repeat' (first | (with_reducible assumption) | (with_reducible refine blk_set_ne ?_ ?_) | (with_reducible exact blk_new _ _) | (with_reducible refine blk_new' _ _ (by first | (with_reducible rfl) | (simp; done) | (simp <;> omega))) | (with_reducible refine blk_alloc ?_ _) | (with_reducible refine blk_drew ?_) | (with_reducible refine blk_drewN ?_ _) | (with_reducible refine Ext2.blk (by assumption) ?_) | omega | (simp <;> omega) | exact blk_set (by assumption) _ _)
  have z7 : w5.heap[w4.heap.size + 1]? = some (Obj.cells #[.func (.func 83) #[] #[.pointer (some ⟨w4.heap.size, 0, none⟩), .pointer (some ⟨w.heap.size, 0, none⟩), .pointer (some ⟨w4.heap.size + 1, 0, none⟩)]] 149) := by rw [h5]; repeat' (first | (with_reducible assumption) | (with_reducible refine blk_set_ne ?_ ?_) | (with_reducible exact blk_new _ _) | (with_reducible refine blk_new' _ _ (by first | (with_reducible rfl) | (simp; done) | (simp <;> omega))) | (with_reducible refine blk_alloc ?_ _) | (with_reducible refine blk_drew ?_) | (with_reducible refine blk_drewN ?_ _) | (with_reducible refine Ext2.blk (by assumption) ?_) | omega | (simp <;> omega) | exact blk_set (by assumption) _ _)
  have hK : KInv w5 F s R b gm km mb w4.heap.size w.heap.size (w4.heap.size + 1) (updM (fun _ => none) (.string ⟨#[]⟩) (.slice (some ⟨mb + 1, 0, none⟩) 0 0)) := by
    refine ⟨HS4.out.below hE5, z6, Ext2.blk hE5 H2.out, z7, HM.out.kept (Below.block hE5 mb HM.out.lt), fun x v hx => ?_, ⟨_, updM_same _ _ _⟩, ?_, ?_⟩
    · by_cases he : x = ⟨#[]⟩
      · subst he
        rw [updM_same] at hx
        simp only [Option.some.injEq] at hx
        refine ⟨mb + 1, 0, 0, hx.symm, ⟨Nat.le_refl _, by simp, fun i j hi _ => absurd hi (Nat.not_lt_zero i)⟩, fun b' off' ha => ?_⟩
        obtain ⟨hb1, -⟩ : mb + 1 = b' ∧ _ := by simpa using ha
        have hye := Ext2.blk hE5 HE.out
        rw [← HMB.out, hb1] at hye
        exact ⟨_, _, hye⟩
      · rw [updM_other (fun e => he (by simpa using e))] at hx; cases hx
    · have := HMB.out; omega
    · have := HMB.out; omega
  have hC := try_any HNT.out (by omega) 24 t _ w5 h24 h24 hK
  have hB5 := below_ext hB4 hE5
  have HC := Lib.hid hC
  have hmw : w.heap.size ≤ mb := by have := HMB.out; omega
  clear h5 z6 z7 hK hC hE5
  (with_reducible refine HC.out.mono ?_)
  rintro e w6 ⟨⟨v, rfl, hv⟩, -, hG⟩
  have hB6 : Below w.heap.size w w6 := hG.below hB5 hmw hB5.size
  obtain ⟨o, ho⟩ : ∃ o, o = setS F t.data.toList := ⟨_, rfl⟩
  have HO := Lib.hid ho
  rw [← ho] at hv
  clear hG ho HC
  have q2 := neq_nil
  cases o with
  | none =>
    obtain rfl : v = .slice none 0 0 := hv
    go_wp2_with (fail)
    go_ret2
    refine ⟨⟨.slice none 0 0, ?_, ?_⟩, hB6⟩
    · rw [← HO.out]; rfl
    · rw [← HO.out]; rfl
  | some l =>
    obtain ⟨lb, loff, lcap, rfl, hli⟩ := hv
    have HLI := Lib.hid hli
    clear hli
    go_wp2_with (fail)
    go_ret2
    refine ⟨⟨.slice (some ⟨lb, loff, none⟩) l.length lcap, ?_, ?_⟩, hB6⟩
    · rw [← HO.out]; rfl
    · rw [← HO.out]; exact ⟨lb, loff, lcap, rfl, HLI.out⟩
end Go.Proofs.YtahgbecfaihfpaaDoor
namespace Go.Proofs.YtahgbecfaihfpaaDoor.D
theorem mem_better {g n : Nat} {r best : Option (List Nat)} (hg : g < n) (hr : ∀ l, r = some l → ∀ x ∈ l, x < n) (hb : ∀ l, best = some l → ∀ x ∈ l, x < n) : ∀ l, better g r best = some l → ∀ x ∈ l, x < n := fun l h => by
  have hc : ∀ l', r = some l' → ∀ x ∈ g :: l', x < n := fun l' hl x hx => by
    rcases List.mem_cons.1 hx with rfl | hx
    · exact hg
    · exact hr l' hl x hx
  cases r with
  | none => exact hb l h
  | some l' =>
    cases best with
    | none =>
      simp only [better, Option.some.injEq] at h
      rw [← h]; exact hc l' rfl
    | some b =>
      simp only [better] at h
      split at h
      · simp only [Option.some.injEq] at h; rw [← h]; exact hc l' rfl
      · exact hb l h
theorem mem_cand {F : Font} {w : List UInt8} {r : Nat → Option (List Nat)} {long : Nat} {best : Option (List Nat)} (hr : long ≤ w.length → ∀ l, r long = some l → ∀ x ∈ l, x < F.glyphs.length) (hb : ∀ l, best = some l → ∀ x ∈ l, x < F.glyphs.length) : ∀ l, candS F w r long best = some l → ∀ x ∈ l, x < F.glyphs.length := fun l h => by
  unfold candS at h
  split at h
  · rename_i h1
    split at h
    · rename_i h2
      exact mem_better h2 (hr h1) hb l h
    · exact hb l h
  · exact hb l h
theorem setS_mem (F : Font) : ∀ (n : Nat) (w : List UInt8), w.length ≤ n → ∀ l, setS F w = some l → ∀ x ∈ l, x < F.glyphs.length
  | _, [], _, l, h => by
    rw [setS_nil] at h
    simp only [Option.some.injEq] at h; rw [← h]; intro x hx; cases hx
  | 0, _ :: _, hn, _, _ => absurd hn (by simp)
  | n + 1, c :: w, hn, l, h => by
    rw [setS_eq F (by simp)] at h
    have hr : ∀ k, 1 ≤ k → k ≤ (c :: w).length → ∀ l, setS F ((c :: w).drop k) = some l → ∀ x ∈ l, x < F.glyphs.length := fun k h1 h2 l hl =>
      setS_mem F n ((c :: w).drop k) (by rw [List.length_drop]; simp at hn ⊢; omega) l hl
    exact mem_cand (hr 1 (by omega)) (mem_cand (hr 2 (by omega)) (mem_cand (hr 3 (by omega)) (fun l h => by cases h))) l h
def wd (F : Font) (g : Nat) : Int := (glD F.glyphs g).wide
def kr (F : Font) (a b : Nat) : Int := betw F.kerns (a : Int) (b : Int)
/-- Where the glyphs of a setting begin. -/
def posS (F : Font) (l : List Nat) : Nat → Int
  | 0 => 0
  | i + 1 => posS F l i + (wd F (l.getD i 0) + kr F (l.getD i 0) (l.getD (i + 1) 0))
/-- The width of the first ones. -/
def widS (F : Font) (l : List Nat) : Nat → Int
  | 0 => 0
  | i + 1 => max (widS F l i) (posS F l i + wd F (l.getD i 0))
def placesS (F : Font) (l : List Nat) : List Int := (List.range l.length).map (posS F l)
theorem wd_rng {F : Font} (hk : FontOk F) {g : Nat} (h : g < F.glyphs.length) : 1 ≤ wd F g ∧ wd F g ≤ 12 := (glE_wide (hk.gl g h)).2
theorem betw_rng {F : Font} (hk : FontOk F) (a b : Int) : -12 ≤ betw F.kerns a b ∧ betw F.kerns a b ≤ 12 := by
  unfold betw
  split
  · rename_i h; exact (knE_ok (hk.kn _ h)).2.2.1
  · omega
theorem kr_rng {F : Font} (hk : FontOk F) {a : Nat} (h : a < F.glyphs.length) (b : Nat) : (1 ≤ wd F a + kr F a b ∧ wd F a + kr F a b ≤ 24) ∧ -12 ≤ kr F a b ∧ kr F a b ≤ 12 := by
  have hw := wd_rng hk h
  refine ⟨?_, betw_rng hk _ _⟩
  have h2 := betw_rng hk (a : Int) (b : Int)
  refine ⟨?_, by unfold kr; omega⟩
  unfold kr betw
  split
  · rename_i h1
    have h3 := (knE_ok (hk.kn _ h1)).2.2.2
    have h4 := (firstN_spec (p := fun j => decide ((knD F.kerns j).left = (a : Int) ∧ (knD F.kerns j).right = (b : Int))) (n := F.kerns.length)).2 h1
    have h5 := (of_decide_eq_true h4).1
    have h6 : (knD F.kerns (kIx F.kerns (a : Int) (b : Int) F.kerns.length)).left = (a : Int) := h5
    rw [h6] at h3
    simpa [wd] using h3
  · omega
theorem getD_mem {l : List Nat} {n i : Nat} (hm : ∀ x ∈ l, x < n) (h : i < l.length) : l.getD i 0 < n := by
  apply hm
  rw [List.getD_eq_getElem?_getD, List.getElem?_eq_getElem h]
  exact List.getElem_mem h
theorem posS_rng {F : Font} (hk : FontOk F) {l : List Nat} (hm : ∀ x ∈ l, x < F.glyphs.length) : ∀ i, i < l.length → (i : Int) ≤ posS F l i ∧ posS F l i ≤ 24 * (i : Int)
  | 0, _ => ⟨Int.le_refl _, Int.le_refl _⟩
  | i + 1, h => by
    have h1 := posS_rng hk hm i (by omega)
    have h2 := (kr_rng hk (getD_mem hm (i := i) (by omega)) (l.getD (i + 1) 0)).1
    rw [posS]
    omega
theorem widS_rng {F : Font} (hk : FontOk F) {l : List Nat} (hm : ∀ x ∈ l, x < F.glyphs.length) : ∀ i, i ≤ l.length → 0 ≤ widS F l i ∧ widS F l i ≤ 24 * (i : Int) + 12
  | 0, _ => ⟨Int.le_refl _, by simp [widS]⟩
  | i + 1, h => by
    have h1 := widS_rng hk hm i (by omega)
    have h2 := posS_rng hk hm i (by omega)
    have h3 := wd_rng hk (getD_mem hm (i := i) (by omega))
    rw [widS]
    omega
theorem places_len (F : Font) (l : List Nat) : (placesS F l).length = l.length := by simp [placesS]
theorem places_at (F : Font) (l : List Nat) {i : Nat} (h : i < l.length) : intD (placesS F l) i = posS F l i := by
  simp [placesS, intD, List.getD_eq_getElem?_getD, h]
end Go.Proofs.YtahgbecfaihfpaaDoor.D
