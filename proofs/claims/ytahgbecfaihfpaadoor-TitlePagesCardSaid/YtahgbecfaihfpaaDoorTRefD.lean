/-
  ref.split, ref.read.
-/
import Derived.Test.YtahgbecfaihfpaaDoorTWidths
import Derived.Test.YtahgbecfaihfpaaDoorTRefX
namespace Go.Proofs.YtahgbecfaihfpaaDoor
open Go.RowKit D
set_option linter.unusedVariables false
set_option linter.unusedSimpArgs false
attribute [local go_sem high] run_minI run_maxI
attribute [local go_sem] upon2 cls_cell cls_frozen forall_const exists_eq_left'
attribute [local go_sem] FirstUpon
theorem cutW_size : ∀ (l : List UInt8), ∀ p ∈ cutW l, p.length ≤ l.length
  | [], p, hp => by
    have : p = [] := by simpa [cutW] using hp
    subst this; exact Nat.le_refl _
  | c :: l, p, hp => by
    have ih := cutW_size l
    rw [cutW] at hp
    split at hp
    · rcases List.mem_cons.1 hp with h | h
      · subst h; simp
      · have := ih p h; simp; omega
    · split at hp
      · rename_i h1; exact absurd h1 (cutW_ne l)
      · rename_i q qs h1
        rcases List.mem_cons.1 hp with h | h
        · subst h
          have := ih q (by rw [h1]; simp)
          simp; omega
        · have := ih p (by rw [h1]; simp [h])
          simp; omega
theorem part_size (t : ByteArray) (i : Nat) : (strD (partsS t) i).size ≤ t.size := by
  by_cases hi : i < (partsS t).length
  · have h1 : strD (partsS t) i ∈ partsS t := by
      unfold strD
      rw [List.getD_eq_getElem?_getD, List.getElem?_eq_getElem hi]
      exact List.getElem_mem hi
    obtain ⟨p, hp, he⟩ := List.mem_map.1 h1
    have h2 := cutW_size _ p hp
    rw [← he, baL_size]
    have h3 : t.data.toList.length = t.size := Array.length_toList
    omega
  · unfold strD
    rw [List.getD_eq_getElem?_getD, List.getElem?_eq_none (by omega)]
    exact Nat.zero_le _
theorem letters_odd {s : ByteArray} (h : s.size ≤ 1000) : lettersS s 1000 = !oddS s := by
  unfold lettersS oddS inB
  by_cases h0 : s.size = 0
  · rw [decide_eq_false (by omega), decide_eq_true h0]; simp
  · rw [decide_eq_true (by omega), decide_eq_false h0]; simp
set_option maxRecDepth 100000 in
set_option maxHeartbeats 2000000 in
theorem splitR_any {t : ByteArray} {w : World} (ht : t.size ≤ 1000) : Calls Tryd.prog 78 #[.string t] w fun e w' => (∃ s' : Sl, e = .returned (.slice s'.a (partsS t).length s'.cap) ∧ StrsS w' s' (partsS t)) ∧ Below w.heap.size w w' := by
  go_enter Tryd.func78, Tryd.ntmps78
  go_wp2_with (fail)
  go_loopw [3, 4, 5] (fun v f i wr => ∃ (k f0 : Nat) (O : List ByteArray), i = .int .i64 (k : Int) ∧ f = .int .i64 (f0 : Int) ∧ f0 ≤ k ∧ k ≤ t.size ∧ O.length ≤ k ∧ partsS t = O ++ restP t f0 ∧ (∀ j (hj : j < t.size), f0 ≤ j → j < k → t[j] ≠ 32) ∧ OwnR wr w.heap.size 9 1 v O.length (strC O) ∧ Below w.heap.size w wr) (fun _ _ i _ => t.size - (intOf i).toNat)
  case atStart => exact ⟨0, 0, [], rfl, rfl, Nat.le_refl _, Nat.zero_le _, Nat.le_refl _, rfl, fun j _ _ h => absurd h (Nat.not_lt_zero j), own_nil _ _ _ _ _, Below.refl _ _⟩
  case round =>
    obtain ⟨k, f, O, rfl, rfl, hfk, hk, hOk, hP, hn, hO, hB⟩ := hrel
    have HO := Lib.hid hO; have HB := Lib.hid hB; have HP := Lib.hid hP; have HN := Lib.hid hn
    have hsz := hB.size
    clear hO hB hP hn
    by_cases hlt : k < t.size
    · go_light
      have r0 : (0 : Int) ≤ (k : Int) := by omega
      have r1 : (k : Int) < (t.size : Int) := by omega
      have w3' : IntKind.i64.wrap ((k : Int) + 1) = (k : Int) + 1 := IntWalk.i64_in _ (by omega)
      obtain ⟨ch, hch⟩ : ∃ ch, ch = (t[k]'hlt).toNat := ⟨_, rfl⟩
      have hch2 := hch.symm
      have hcl : ch < 256 := by rw [hch]; exact UInt8.toNat_lt _
      have HCH := Lib.hid hch
      clear hch
      by_cases h32 : ch = 32
      · subst h32
        have hs : t[k]'hlt = 32 := by
          have := HCH.out
          exact UInt8.toNat_inj.1 (by rw [← this]; rfl)
        have hsp := restP_sp hfk hlt HN.out hs
        have HSP := Lib.hid hsp
        have f0 : (0 : Int) ≤ (f : Int) := by omega
        have f1 : (f : Int) ≤ (k : Int) := by omega
        have f2 : (k : Int) ≤ (t.size : Int) := by omega
        clear hs hsp
        go_wp2_with (at_builtin; refine app_one [.string (t.extract f k)] elStr1 rfl _ _ rfl w.heap.size rfl (HO.out.below (below_alloc' _ _)) wr.heap.size 1 rfl (blk_new _ _) (by simp [Value.oneCell']) (by omega) (by simp; omega) ?_; intro v' w7 hO7 hg7)
        have hB7 : Below w.heap.size w w7 := app_below (HB.out.alloc (by omega) _) (HO.out.below (below_alloc' _ _)) (Nat.le_refl _) (by simp; omega) hg7
        have hO7' : OwnR w7 w.heap.size 9 1 v' (O ++ [t.extract f k]).length (strC (O ++ [t.extract f k])) := by
          rw [List.length_append, List.length_singleton]
          refine hO7.congr fun i j hi hj => ?_
          by_cases hik : i = O.length
          · subst hik
            obtain rfl : j = 0 := by have : j < 1 := hj; omega
            rw [upd_at]; simp [strC, strD]
          · rw [upd_lt (by omega)]
            simp only [strC, strD, List.getD_eq_getElem?_getD]
            rw [List.getElem?_append_left (by omega)]
        have HO7 := Lib.hid hO7'
        clear hO7 hg7 hO7'
        go_roundw
        case rel => exact ⟨k + 1, k + 1, O ++ [t.extract f k], by go_num, by go_num, Nat.le_refl _, hlt, by simp; omega, by rw [HP.out, HSP.out]; simp, fun j _ h1 h2 => by omega, HO7.out, hB7⟩
        case measure => simp [intOf]; omega
      · have hne : ((ch : Int) == 32) = false := by simp; omega
        go_wp2_with (fail)
        go_roundw
        case rel => exact ⟨k + 1, f, O, by go_num, rfl, by omega, hlt, by omega, HP.out, fun j hj h1 h2 => by
          rcases Nat.lt_or_ge j k with h | h
          · exact HN.out j hj h1 h
          · obtain rfl : j = k := by omega
            intro he
            exact h32 (by rw [HCH.out, he]; rfl), HO.out, HB.out⟩
        case measure => simp [intOf]; omega
    · obtain rfl : k = t.size := by omega
      have r1 : ¬ (t.size : Int) < (t.size : Int) := by omega
      have f0 : (0 : Int) ≤ (f : Int) := by omega
      have f2 : (f : Int) ≤ (t.size : Int) := by omega
      have hend := restP_end (t := t) (f := f) fun j hj h1 => HN.out j hj h1 hj
      have HE := Lib.hid hend
      clear hlt hend
      go_wp2_with (at_builtin; refine app_one [.string (t.extract f t.size)] elStr1 rfl _ _ rfl w.heap.size rfl (HO.out.below (below_alloc' _ _)) wr.heap.size 1 rfl (blk_new _ _) (by simp [Value.oneCell']) (by omega) (by simp; omega) ?_; intro v' w7 hO7 hg7)
      have hB7 : Below w.heap.size w w7 := app_below (HB.out.alloc (by omega) _) (HO.out.below (below_alloc' _ _)) (Nat.le_refl _) (by simp; omega) hg7
      have hO7' : OwnR w7 w.heap.size 9 1 v' (O ++ [t.extract f t.size]).length (strC (O ++ [t.extract f t.size])) := by
        rw [List.length_append, List.length_singleton]
        refine hO7.congr fun i j hi hj => ?_
        by_cases hik : i = O.length
        · subst hik
          obtain rfl : j = 0 := by have : j < 1 := hj; omega
          rw [upd_at]; simp [strC, strD]
        · rw [upd_lt (by omega)]
          simp only [strC, strD, List.getD_eq_getElem?_getD]
          rw [List.getElem?_append_left (by omega)]
      have hPE : partsS t = O ++ [t.extract f t.size] := by rw [HP.out, HE.out]
      rw [← hPE] at hO7'
      have hlen : O.length + 1 = (partsS t).length := by rw [hPE]; simp
      obtain ⟨⟨a', cp⟩, hv, hro⟩ := hO7'.sl
      subst hv
      have HRO := Lib.hid hro
      clear hO7 hg7 hO7' hro hPE
      go_wp2_with (fail)
      go_ret
      exact ⟨⟨⟨a', cp⟩, rfl, HRO.out⟩, hB7⟩
/-- What read returns. -/
def ReadPost (w : World) (F : Font) (R : Rul) (t : ByteArray) (e : Ending) (w' : World) : Prop :=
  (∃ v1 v2, e = .returned (.tuple #[v1, v2, .int .i64 (openE F R t)]) ∧ if openE F R t = 0 then (∃ s1 : Sl, v1 = .slice s1.a (partsS t).length s1.cap ∧ StrsS w' s1 (partsS t)) ∧ (∃ s2 : Sl, v2 = .slice s2.a (partsS t).length s2.cap ∧ IntsS w' s2 (widL F (partsS t))) else v1 = .slice none 0 0 ∧ v2 = .slice none 0 0) ∧ Below w.heap.size w w'
theorem open_rul {F : Font} {R : Rul} {t : ByteArray} (h : checkRul F R ≠ 0) : openE F R t = checkRul F R := by unfold openE; rw [if_pos h]
theorem open_words {F : Font} {R : Rul} {t : ByteArray} (h : checkRul F R = 0) : openE F R t = wordsE F R t := by unfold openE; rw [if_neg (not_not_intro h)]
theorem rul_font {F : Font} {R : Rul} (h1 : checkRul F R = 0) : FontOk F := by
  refine font_ok ?_
  by_cases h3 : (checkF F).2.2 = 0
  · exact h3
  · unfold checkRul at h1
    rw [if_pos h3] at h1
    exact h1
theorem any_hit {p : Nat → Bool} {n k : Nat} (hk : k < n) (h : p k = true) : anyF p n = true := by
  cases hq : anyF p n with
  | true => rfl
  | false => have := anyF_false hq.symm k hk; rw [h] at this; cases this
theorem any_no {p : Nat → Bool} {n : Nat} (h : ∀ k, k < n → p k = false) : anyF p n = false := by
  unfold anyF; rw [firstN_none h]; exact decide_eq_false (Nat.lt_irrefl _)
set_option maxRecDepth 100000 in
set_option maxHeartbeats 2000000 in
theorem readR_any {F : Font} {s : FSl} {R : Rul} {t : ByteArray} {w : World} (hF : FontAt w F s) (ht : t.size ≤ maxLen) : Calls Tryd.prog 57 #[.agg #[.int .i64 F.high, .int .i64 F.space, .slice s.g.a F.glyphs.length s.g.cap, .slice s.k.a F.kerns.length s.k.cap], .agg #[.int .i64 R.measure, .int .i64 R.lines, .int .i64 R.lead, .int .i64 R.short, .int .i64 R.extra, .int .i64 R.ink], .string t] w (ReadPost w F R t) := by
  unfold maxLen at ht
  have HC : Hid (∀ W, Below w.heap.size w W → Calls Tryd.prog 32 #[.agg #[.int .i64 F.high, .int .i64 F.space, .slice s.g.a F.glyphs.length s.g.cap, .slice s.k.a F.kerns.length s.k.cap], .agg #[.int .i64 R.measure, .int .i64 R.lines, .int .i64 R.lead, .int .i64 R.short, .int .i64 R.extra, .int .i64 R.ink]] W fun e w' => e = .returned (.int .i64 (checkRul F R)) ∧ Below W.heap.size W w') := Lib.hid fun W hW => checkRuleR_any (hF.below hW)
  have HF := Lib.hid hF
  obtain ⟨x, hx⟩ : ∃ x, x = checkRul F R := ⟨_, rfl⟩
  have HX := Lib.hid hx
  rw [← hx] at HC
  clear hF hx
  go_enter Tryd.func57, Tryd.ntmps57
  go_wp2_with (fail)
  (with_reducible refine (HC.out _ ?_).mono ?_)
  · repeat' (first | exact Below.refl _ _ | assumption | refine below_drewN ?_ _ | refine Below.drew ?_ | refine Below.alloc ?_ (by first | assumption | omega | (simp <;> omega)) _ | refine Below.setCell ?_ (by first | assumption | omega | (simp <;> omega)) _ | refine Ext2.on (by assumption) ?_)
  rintro e w1 ⟨rfl, hb1⟩
  have hB1 : Below w.heap.size w w1 := Below.trans (by repeat' (first | exact Below.refl _ _ | assumption | refine below_drewN ?_ _ | refine Below.drew ?_ | refine Below.alloc ?_ (by first | assumption | omega | (simp <;> omega)) _ | refine Below.setCell ?_ (by first | assumption | omega | (simp <;> omega)) _ | refine Ext2.on (by assumption) ?_)) (hb1.mono (by simp; omega))
  have x2 : w1.heap[w.heap.size]? = some (Obj.cells #[.int .i64 F.high, .int .i64 F.space, .slice s.g.a F.glyphs.length s.g.cap, .slice s.k.a F.kerns.length s.k.cap] 25) := below_blk hb1 (by repeat' (first | (with_reducible assumption) | (with_reducible refine blk_set_ne ?_ ?_) | (with_reducible exact blk_new _ _) | (with_reducible refine blk_new' _ _ (by first | (with_reducible rfl) | (simp; done) | (simp <;> omega))) | (with_reducible refine blk_alloc ?_ _) | (with_reducible refine blk_drew ?_) | (with_reducible refine blk_drewN ?_ _) | (with_reducible refine Ext2.blk (by assumption) ?_) | omega | (simp <;> omega) | exact blk_set (by assumption) _ _)) (by simp; omega)
  have x3 : w1.heap[w.heap.size + 1]? = some (Obj.cells #[.int .i64 R.measure, .int .i64 R.lines, .int .i64 R.lead, .int .i64 R.short, .int .i64 R.extra, .int .i64 R.ink] 34) := below_blk hb1 (by repeat' (first | (with_reducible assumption) | (with_reducible refine blk_set_ne ?_ ?_) | (with_reducible exact blk_new _ _) | (with_reducible refine blk_new' _ _ (by first | (with_reducible rfl) | (simp; done) | (simp <;> omega))) | (with_reducible refine blk_alloc ?_ _) | (with_reducible refine blk_drew ?_) | (with_reducible refine blk_drewN ?_ _) | (with_reducible refine Ext2.blk (by assumption) ?_) | omega | (simp <;> omega) | exact blk_set (by assumption) _ _)) (by simp)
  have HB1 := Lib.hid hB1; have HX2 := Lib.hid x2; have HX3 := Lib.hid x3
  clear hb1 hB1 x2 x3
  by_cases h0 : x = 0
  case neg =>
    have e1 : (x == 0) = false := beq_eq_false_iff_ne.2 h0
    have e2 : (x != 0) = true := by simp [h0]
    have hoe := open_rul (t := t) (by rw [← HX.out]; exact h0)
    have H0 := Lib.hid h0; have HOE := Lib.hid hoe
    clear h0 hoe
    go_wp2_with (fail)
    refine bodyPost_ret (v := .tuple #[.slice none 0 0, .slice none 0 0, .int .i64 x]) ?_ rfl ⟨⟨.slice none 0 0, .slice none 0 0, by rw [HOE.out, ← HX.out], by rw [if_neg (by rw [HOE.out, ← HX.out]; exact H0.out)]; exact ⟨rfl, rfl⟩⟩, HB1.out⟩
    simp [results, Tryd.results57, go_sem]
  case pos =>
    subst h0
    have how := open_words (t := t) HX.out.symm
    have hk := rul_font HX.out.symm
    have HK := Lib.hid hk; have HOW := Lib.hid how
    clear how hk
    by_cases hsz : t.size > 1000
    · have e1 : (t.size : Int) > 1000 := by omega
      have hoe : openE F R t = 3 := by rw [HOW.out]; unfold wordsE; rw [if_pos hsz]
      have HOE := Lib.hid hoe
      clear hoe hsz
      go_wp2_with (fail)
      refine bodyPost_ret (v := .tuple #[.slice none 0 0, .slice none 0 0, .int .i64 3]) ?_ rfl ⟨⟨.slice none 0 0, .slice none 0 0, by rw [HOE.out], by rw [if_neg (by rw [HOE.out]; decide)]; exact ⟨rfl, rfl⟩⟩, HB1.out⟩
      simp [results, Tryd.results57, go_sem]
    · have e1 : ¬ (t.size : Int) > 1000 := by omega
      have hw1 : wordsE F R t = if anyF (fun i => oddS (strD (partsS t) i)) (partsS t).length then 6 else if 40 < (partsS t).length then 3 else if anyF (fun i => decide (24 < (strD (partsS t) i).size)) (partsS t).length then 3 else if firstN (badW F R (partsS t)) (partsS t).length < (partsS t).length then wordErr F R (strD (partsS t) (firstN (badW F R (partsS t)) (partsS t).length)) else 0 := by unfold wordsE; rw [if_neg hsz]
      have HSP := Lib.hid (splitR_any (t := t) (w := w1) (by omega))
      have hps := part_size t
      have hn1 : 1 ≤ (partsS t).length := by
        have h1 := cutW_ne t.data.toList
        have h2 : (partsS t).length = (cutW t.data.toList).length := List.length_map ..
        have h3 := List.length_pos_iff.2 h1
        omega
      obtain ⟨P, hP⟩ : ∃ P, P = partsS t := ⟨_, rfl⟩
      rw [← hP] at hw1 HSP hps hn1
      have HW1 := Lib.hid hw1; have HPS := Lib.hid hps; have HP := Lib.hid hP
      clear hw1 hps hP hsz
      go_wp2_with (fail)
      refine HSP.out.mono ?_
      rintro e w2 ⟨⟨s1, rfl, hs1⟩, hb2⟩
      have HB2 := Lib.hid (below_ext HB1.out hb2)
      have HX2 := Lib.hid (Ext2.blk hb2 HX2.out); have HX3 := Lib.hid (Ext2.blk hb2 HX3.out)
      have h1c := hs1.le; have h1m := hs1.max
      obtain ⟨sb, soff, hsa, -⟩ := str_cell hs1 (i := 0) (by omega)
      obtain ⟨sa, sc⟩ := s1
      dsimp only at hsa h1c h1m
      subst hsa
      dsimp only
      have HS1 := Lib.hid hs1
      clear hs1 hb2 e1
      go_wp2_with (fail)
      go_loopw [11] (fun i wr => ∃ k : Nat, i = .int .i64 (k : Int) ∧ k ≤ P.length ∧ wr = w2 ∧ ∀ j, j < k → oddS (strD P j) = false) (fun i _ => P.length - (intOf i).toNat)
      case atStart => exact ⟨0, rfl, Nat.zero_le _, rfl, fun j h => absurd h (Nat.not_lt_zero j)⟩
      case round =>
        obtain ⟨k, rfl, hk, rfl, hod⟩ := hrel
        have HOD := Lib.hid hod
        clear hod
        by_cases hlt : k < P.length
        · have i0 : (0 : Int) ≤ (k : Int) := by omega
          have i1 : (k : Int) < (P.length : Int) := by omega
          have w3' : IntKind.i64.wrap ((k : Int) + 1) = (k : Int) + 1 := IntWalk.i64_in _ (by omega)
          obtain ⟨_, _, h1, c0⟩ := str_cell HS1.out hlt
          obtain ⟨rfl, rfl⟩ : sb = _ ∧ soff = _ := by simpa using h1
          have hpz := HPS.out k
          obtain ⟨v, hv⟩ : ∃ v, v = oddS (strD P k) := ⟨_, rfl⟩
          have HLT : Hid (∀ W, Calls Tryd.prog 50 #[.string (strD P k), .int .i64 1000] W fun e w' => e = .returned (.bool (!v)) ∧ W = w') := Lib.hid fun W => by rw [hv, ← letters_odd (by omega)]; exact letters_any _ 1000 W (by unfold maxLen; omega)
          obtain ⟨p, hp⟩ : ∃ p, p = strD P k := ⟨_, rfl⟩
          rw [← hp] at c0 HLT
          have HV := Lib.hid hv
          clear h1 hv hp hpz
          cases v
          case true =>
            simp only [Bool.not_true] at HLT
            have hoe : openE F R t = 6 := by rw [HOW.out, HW1.out, if_pos (any_hit hlt HV.out.symm)]
            have HOE := Lib.hid hoe
            clear hoe
            go_wp2_with (go_at_call 50; (with_reducible refine (HLT.out _).mono ?_); rintro e w' ⟨rfl, rfl⟩)
            refine bodyPost_ret (v := .tuple #[.slice none 0 0, .slice none 0 0, .int .i64 6]) ?_ rfl ⟨⟨.slice none 0 0, .slice none 0 0, by rw [HOE.out], by rw [if_neg (by rw [HOE.out]; decide)]; exact ⟨rfl, rfl⟩⟩, HB2.out⟩
            simp [results, Tryd.results57, go_sem]
          case false =>
            simp only [Bool.not_false] at HLT
            go_wp2_with (go_at_call 50; (with_reducible refine (HLT.out _).mono ?_); rintro e w' ⟨rfl, rfl⟩)
            exact ⟨⟨k + 1, congrArg (Value.int .i64) (by omega), hlt, True.intro, fun j hj => by
              rcases Nat.lt_or_ge j k with h | h
              · exact HOD.out j h
              · obtain rfl : j = k := by omega
                exact HV.out.symm⟩, by simp only [intOf]; omega⟩
        · obtain rfl : k = P.length := by omega
          have r1 : ¬ (P.length : Int) < (P.length : Int) := by omega
          have hw2 : wordsE F R t = if 40 < P.length then 3 else if anyF (fun i => decide (24 < (strD P i).size)) P.length then 3 else if firstN (badW F R P) P.length < P.length then wordErr F R (strD P (firstN (badW F R P) P.length)) else 0 := by rw [HW1.out, if_neg (by rw [any_no HOD.out]; simp)]
          have HW2 := Lib.hid hw2
          clear hlt hw2
          go_wp2_with (fail)
          go_loopw [12] (fun i wx => ∃ k : Nat, i = .int .i64 (k : Int) ∧ k ≤ P.length ∧ wx = wr ∧ (0 < k → P.length ≤ 40) ∧ ∀ j, j < k → (strD P j).size ≤ 24) (fun i _ => P.length - (intOf i).toNat)
          case atStart => exact ⟨0, rfl, Nat.zero_le _, rfl, fun h => absurd h (Nat.lt_irrefl _), fun j h => absurd h (Nat.not_lt_zero j)⟩
          case round =>
            obtain ⟨k, rfl, hk, rfl, h40, hsz⟩ := hrel
            have HSZ := Lib.hid hsz; have H40 := Lib.hid h40
            clear hsz h40
            by_cases hlt : k < P.length
            · have i0 : (0 : Int) ≤ (k : Int) := by omega
              have i1 : (k : Int) < (P.length : Int) := by omega
              have w3' : IntKind.i64.wrap ((k : Int) + 1) = (k : Int) + 1 := IntWalk.i64_in _ (by omega)
              obtain ⟨_, _, h1, c0⟩ := str_cell HS1.out hlt
              obtain ⟨rfl, rfl⟩ : sb = _ ∧ soff = _ := by simpa using h1
              obtain ⟨p, hp⟩ : ∃ p, p = strD P k := ⟨_, rfl⟩
              rw [← hp] at c0
              have HPK := Lib.hid hp
              clear h1 hp
              by_cases hbig : p.size > 24
              · have hoe : openE F R t = 3 := by
                  rw [HOW.out, HW2.out, if_pos (any_hit (p := fun i => decide (24 < (strD P i).size)) hlt (decide_eq_true (by rw [← HPK.out]; exact hbig)))]
                  split <;> rfl
                have HOE := Lib.hid hoe
                have e1 : (p.size : Int) > 24 := by omega
                clear hoe
                go_wp2_with (fail)
                refine bodyPost_ret (v := .tuple #[.slice none 0 0, .slice none 0 0, .int .i64 3]) ?_ rfl ⟨⟨.slice none 0 0, .slice none 0 0, by rw [HOE.out], by rw [if_neg (by rw [HOE.out]; decide)]; exact ⟨rfl, rfl⟩⟩, HB2.out⟩
                simp [results, Tryd.results57, go_sem]
              · have e1 : ¬ (p.size : Int) > 24 := by omega
                by_cases hmany : P.length > 40
                · have hoe : openE F R t = 3 := by rw [HOW.out, HW2.out, if_pos hmany]
                  have HOE := Lib.hid hoe
                  have e2 : (P.length : Int) > 40 := by omega
                  clear hoe hmany
                  go_wp2_with (fail)
                  refine bodyPost_ret (v := .tuple #[.slice none 0 0, .slice none 0 0, .int .i64 3]) ?_ rfl ⟨⟨.slice none 0 0, .slice none 0 0, by rw [HOE.out], by rw [if_neg (by rw [HOE.out]; decide)]; exact ⟨rfl, rfl⟩⟩, HB2.out⟩
                  simp [results, Tryd.results57, go_sem]
                · have e2 : ¬ (P.length : Int) > 40 := by omega
                  go_wp2_with (fail)
                  exact ⟨⟨k + 1, congrArg (Value.int .i64) (by omega), hlt, True.intro, fun _ => by omega, fun j hj => by
                    rcases Nat.lt_or_ge j k with h | h
                    · exact HSZ.out j h
                    · obtain rfl : j = k := by omega
                      rw [← HPK.out]; omega⟩, by simp only [intOf]; omega⟩
            · obtain rfl : k = P.length := by omega
              have r1 : ¬ (P.length : Int) < (P.length : Int) := by omega
              have hn40 := H40.out (by omega)
              have hw3 : wordsE F R t = if firstN (badW F R P) P.length < P.length then wordErr F R (strD P (firstN (badW F R P) P.length)) else 0 := by rw [HW2.out, if_neg (by omega), if_neg (by rw [any_no fun j hj => decide_eq_false (by have := HSZ.out j hj; omega)]; simp)]
              have HW3 := Lib.hid hw3
              clear hlt hw3
              have hb0 := HB2.out.size
              go_wp2_with (fail)
              obtain ⟨w4, hw4⟩ : ∃ x, x = wr := ⟨_, rfl⟩
              have HB4 := Lib.hid (show Below w.heap.size w w4 by rw [hw4]; exact HB2.out)
              have HX24 := Lib.hid (show w4.heap[w.heap.size]? = some ((Obj.cells #[.int .i64 F.high, .int .i64 F.space, .slice s.g.a F.glyphs.length s.g.cap, .slice s.k.a F.kerns.length s.k.cap] 25)) by rw [hw4]; exact HX2.out)
              have HX34 := Lib.hid (show w4.heap[w.heap.size + 1]? = some ((Obj.cells #[.int .i64 R.measure, .int .i64 R.lines, .int .i64 R.lead, .int .i64 R.short, .int .i64 R.extra, .int .i64 R.ink] 34)) by rw [hw4]; exact HX3.out)
              have HS4 := Lib.hid (show StrsS w4 ⟨some ⟨sb, soff, none⟩, sc⟩ P by rw [hw4]; exact HS1.out)
              rw [← hw4]
              go_loopw [13, 14] (fun v i wx => ∃ k : Nat, i = .int .i64 (k : Int) ∧ k ≤ P.length ∧ OwnR wx w4.heap.size 3 1 v k (fun i _ => .int .i64 (wW F (strD P i))) ∧ (∀ j, j < k → badW F R P j = false) ∧ Ext2 w4 wx) (fun _ i _ => P.length - (intOf i).toNat)
              case atStart => exact ⟨0, rfl, Nat.zero_le _, own_nil _ _ _ _ _, fun j h => absurd h (Nat.not_lt_zero j), Below.refl _ _⟩
              case round =>
                obtain ⟨k, rfl, hk, hO, hbd, hEr⟩ := hrel
                have HO := Lib.hid hO; have HEr := Lib.hid hEr; have HBD := Lib.hid hbd
                have hsz := hEr.size
                have hBr := below_ext HB4.out hEr
                clear hO hbd
                by_cases hlt : k < P.length
                · have i0 : (0 : Int) ≤ (k : Int) := by omega
                  have i1 : (k : Int) < (P.length : Int) := by omega
                  have w3' : IntKind.i64.wrap ((k : Int) + 1) = (k : Int) + 1 := IntWalk.i64_in _ (by omega)
                  obtain ⟨_, _, h1, c0⟩ := str_cell (RowS.below HS4.out hEr) hlt
                  obtain ⟨rfl, rfl⟩ : sb = _ ∧ soff = _ := by simpa using h1
                  have hpz := HSZ.out k hlt
                  have hod := HOD.out k hlt
                  obtain ⟨p, hp⟩ : ∃ p, p = strD P k := ⟨_, rfl⟩
                  rw [← hp] at c0 hpz hod
                  have HPK := Lib.hid hp
                  have hne : p.data.toList ≠ [] := fun h => by
                    have h1 : p.data.toList.length = p.size := Array.length_toList
                    rw [h] at h1
                    unfold oddS at hod
                    rw [Bool.or_eq_false_iff] at hod
                    have := of_decide_eq_false hod.2
                    simp at h1; omega
                  have HSC : Hid (∀ W, Ext2 wr W → Calls Tryd.prog 51 #[.agg #[.int .i64 F.high, .int .i64 F.space, .slice s.g.a F.glyphs.length s.g.cap, .slice s.k.a F.kerns.length s.k.cap], .string p] W fun e w' => (∃ v, e = .returned (.tuple #[v, .bool (setS F p.data.toList).isSome]) ∧ RV w' (setS F p.data.toList) v) ∧ Below W.heap.size W w') := Lib.hid fun W hW => setR_any (HF.out.below (below_ext hBr hW)) HK.out hpz
                  have x2 := Ext2.blk hEr HX24.out
                  have hgx : firstN (badW F R P) P.length < P.length → firstN (badW F R P) P.length < P.length := id
                  clear h1 hp hod hgx
                  have q2c := cell_blk x2
                  have q2f := frz_blk x2
                  go_wp2_with (fail)
                  refine region_st [⟨[], [0, 1, 2, 3, 4], [5]⟩, ⟨[], [6, 7, 8, 9, 10], []⟩] (by kernel_rfl) (by kernel_rfl) (by intro c a d v w h; cases d <;> exact h) ?_
                  refine wpSt_cons ?_
                  simp only [picks, List.drop_succ_cons, List.drop_zero]
                  repeat ((with_reducible refine wpQ0_step (fun K hK => ?_)); go_simp; ((with_reducible refine hK _ ?_); clear hK K))
                  refine wpQ0_nil ?_
                  repeat ((with_reducible refine wpQ2_step (fun K hK => ?_)); go_simp; first | ((with_reducible refine hK _ ?_); clear hK K) | (apply Exists.intro; refine ⟨fun x => ?_, hK _ ?_⟩; (fail); clear hK K))
                  refine wpQ2_nil ?_
                  intro w5 hw5
                  refine wpTl_cons ?_
                  go_wp2_with (fail)
                  refine (HSC.out _ hw5).mono ?_
                  rintro e w6 ⟨⟨v, rfl, hrv⟩, hb6⟩
                  have HR6 := Lib.hid (ext_trans hw5 hb6)
                  clear q2c q2f x2 c0 hw5 hb6
                  cases hs : setS F p.data.toList with
                  | none =>
                    rw [hs] at hrv
                    obtain ⟨va, vc, rfl⟩ := hrv.val
                    have hwe : wordErr F R (strD P k) = 200 := by unfold wordErr; rw [← HPK.out, hs]; rfl
                    have hbk : badW F R P k = true := by unfold badW; rw [hwe]; rfl
                    have hoe : openE F R t = 200 := by
                      rw [HOW.out, HW3.out, firstN_at HBD.out hbk hlt, if_pos hlt, hwe]
                    have HOE := Lib.hid hoe
                    have HB6 := Lib.hid (below_ext hBr HR6.out)
                    clear hs hrv hwe hbk hoe hBr hEr
                    go_wp2_with (fail)
                    refine wpTl_nil ?_
                    refine wpSt_name ?_
                    intro w7 hw7
                    refine wpSt_cons ?_
                    simp only [picks, List.drop_succ_cons, List.drop_zero]
                    repeat ((with_reducible refine wpQ0_step (fun K hK => ?_)); go_simp; ((with_reducible refine hK _ ?_); clear hK K))
                    refine wpQ0_nil ?_
                    repeat ((with_reducible refine wpQ2_step (fun K hK => ?_)); go_simp; first | ((with_reducible refine hK _ ?_); clear hK K) | (apply Exists.intro; refine ⟨fun x => ?_, hK _ ?_⟩; (fail); clear hK K))
                    refine wpQ2_nil ?_
                    intro w8 hw8
                    refine wpTl_nil ?_
                    refine wpSt_nil ?_
                    subst hw7
                    have HB8 := Lib.hid (below_ext HB6.out hw8)
                    clear hw8
                    go_wp2_with (fail)
                    refine bodyPost_ret (v := .tuple #[.slice none 0 0, .slice none 0 0, .int .i64 200]) ?_ rfl ⟨⟨.slice none 0 0, .slice none 0 0, by rw [HOE.out], by rw [if_neg (by rw [HOE.out]; decide)]; exact ⟨rfl, rfl⟩⟩, HB8.out⟩
                    simp [results, Tryd.results57, go_sem]
                  | some l =>
                    rw [hs] at hrv
                    have hl0 := setS_ne hne hs
                    have hlp : 0 < l.length := List.length_pos_iff.2 hl0
                    have hl24 := setS_len F _ _ (Nat.le_refl _) l hs
                    have hsl : p.data.toList.length = p.size := Array.length_toList
                    have hmem := setS_mem F _ _ (Nat.le_refl _) l hs
                    rcases hrv with ⟨-, h1⟩ | ⟨b, off, cap, rfl, hi⟩
                    · exact absurd h1 hl0
                    · have hi : IntsT w6 ⟨some ⟨b, off, none⟩, cap⟩ (l.map Int.ofNat) := hi
                      have hww : wW F p = widS F l l.length := by unfold wW gL; rw [hs]; rfl
                      have hwe : wordErr F R (strD P k) = if R.measure < wW F p then 201 else 0 := by unfold wordErr; rw [← HPK.out, hs]; rfl
                      have HWE := Lib.hid hwe
                      have HB6 := Lib.hid (below_ext hBr HR6.out)
                      have HWD : Hid (∀ W, Ext2 w6 W → Calls Tryd.prog 52 #[.agg #[.int .i64 F.high, .int .i64 F.space, .slice s.g.a F.glyphs.length s.g.cap, .slice s.k.a F.kerns.length s.k.cap], .slice (some ⟨b, off, none⟩) l.length cap] W fun e w' => e = .returned (.int .i64 (wW F p)) ∧ Below W.heap.size W w') := Lib.hid fun W hW => by
                        rw [hww]; exact widthR_any (sl := ⟨some ⟨b, off, none⟩, cap⟩) (HF.out.below (below_ext HB6.out hW)) HK.out (RowS.below hi.1 hW) hmem (by omega) hlp
                      obtain ⟨ww, hwwx⟩ : ∃ x, x = wW F p := ⟨_, rfl⟩
                      rw [← hwwx] at HWD
                      have HWX := Lib.hid hwwx
                      clear hs hmem hl0 hi hww hwe hBr hwwx hsl hl24 hlp
                      go_wp2_with (fail)
                      refine wpTl_nil ?_
                      refine wpSt_name ?_
                      intro w7 hw7
                      refine wpSt_cons ?_
                      simp only [picks, List.drop_succ_cons, List.drop_zero]
                      repeat ((with_reducible refine wpQ0_step (fun K hK => ?_)); go_simp; ((with_reducible refine hK _ ?_); clear hK K))
                      refine wpQ0_nil ?_
                      repeat ((with_reducible refine wpQ2_step (fun K hK => ?_)); go_simp; first | ((with_reducible refine hK _ ?_); clear hK K) | (apply Exists.intro; refine ⟨fun x => ?_, hK _ ?_⟩; (fail); clear hK K))
                      refine wpQ2_nil ?_
                      intro w8 hw8
                      refine wpTl_nil ?_
                      refine wpSt_nil ?_
                      subst hw7
                      have HR8 := Lib.hid (ext_trans HR6.out hw8)
                      have HB8 := Lib.hid (below_ext HB6.out hw8)
                      have HWD8 := Lib.hid (HWD.out _ hw8)
                      have x2 := Ext2.blk (ext_trans HEr.out HR8.out) HX24.out
                      clear hw8
                      have q2c := cell_blk x2
                      have q2f := frz_blk x2
                      go_wp2_with (fail)
                      refine HWD8.out.mono ?_
                      rintro e w9 ⟨rfl, hb9⟩
                      have HR9 := Lib.hid (ext_trans HR8.out hb9)
                      have HB9 := Lib.hid (below_ext HB8.out hb9)
                      have x3 := Ext2.blk (ext_trans HEr.out HR9.out) HX34.out
                      clear hb9 q2c q2f x2
                      have q3c := cell_blk x3
                      have q3f := frz_blk x3
                      by_cases hwide : ww > R.measure
                      · have hbk : badW F R P k = true := by unfold badW; rw [HWE.out, if_pos (by rw [← HWX.out]; exact hwide)]; rfl
                        have hoe : openE F R t = 201 := by
                          rw [HOW.out, HW3.out, firstN_at HBD.out hbk hlt, if_pos hlt, HWE.out, if_pos (by rw [← HWX.out]; exact hwide)]
                        have HOE := Lib.hid hoe
                        clear hbk hoe
                        go_wp2_with (fail)
                        refine bodyPost_ret (v := .tuple #[.slice none 0 0, .slice none 0 0, .int .i64 201]) ?_ rfl ⟨⟨.slice none 0 0, .slice none 0 0, by rw [HOE.out], by rw [if_neg (by rw [HOE.out]; decide)]; exact ⟨rfl, rfl⟩⟩, HB9.out⟩
                        simp [results, Tryd.results57, go_sem]
                      · have hbk : badW F R P k = false := by unfold badW; rw [HWE.out, if_neg (by rw [← HWX.out]; omega)]; rfl
                        have HBK := Lib.hid hbk
                        have HE9 := Lib.hid (ext_trans HEr.out HR9.out)
                        have hsz9 := HE9.out.size
                        clear hbk hEr
                        go_wp2_with (at_builtin; refine app_one [.int .i64 ww] elInt rfl _ _ rfl w4.heap.size rfl ((HO.out.below HR9.out).below (below_alloc' _ _)) w9.heap.size 1 rfl (blk_new _ _) (by simp [Value.oneCell']) (by omega) (by simp; omega) ?_; intro v' w10 hO7 hg7)
                        have hE7 : Ext2 w4 w10 := app_below (HE9.out.alloc (by omega) _) ((HO.out.below HR9.out).below (below_alloc' _ _)) (Nat.le_refl _) (by simp; omega) hg7
                        have hO7' : OwnR w10 w4.heap.size 3 1 v' (k + 1) (fun i _ => .int .i64 (wW F (strD P i))) := hO7.congr fun i j hi hj => by
                          by_cases hik : i = k
                          · subst hik
                            obtain rfl : j = 0 := by have : j < 1 := hj; omega
                            rw [upd_at, ← HPK.out, ← HWX.out]; rfl
                          · rw [upd_lt (by omega)]
                        have HO7 := Lib.hid hO7'
                        clear hO7 hg7 hO7'
                        go_roundw
                        case rel => exact ⟨k + 1, by go_num, hlt, HO7.out, fun j hj => by
                          rcases Nat.lt_or_ge j k with h | h
                          · exact HBD.out j h
                          · obtain rfl : j = k := by omega
                            exact HBK.out, hE7⟩
                        case measure => simp [intOf]; omega
                · obtain rfl : k = P.length := by omega
                  have r1 : ¬ (P.length : Int) < (P.length : Int) := by omega
                  obtain ⟨⟨a', cp⟩, rfl, hro⟩ := HO.out.sl
                  have HRO := Lib.hid hro
                  have hoe : openE F R t = 0 := by rw [HOW.out, HW3.out, if_neg (by rw [firstN_none HBD.out]; exact Nat.lt_irrefl _)]
                  have HOE := Lib.hid hoe
                  have HSr := Lib.hid (RowS.below HS4.out hEr)
                  have HBr := Lib.hid hBr
                  clear hlt hro hEr hBr hoe
                  go_wp2_with (fail)
                  refine bodyPost_ret (v := .tuple #[.slice (some ⟨sb, soff, none⟩) P.length sc, .slice a' P.length cp, .int .i64 0]) ?_ rfl ⟨⟨_, _, by rw [HOE.out], ?_⟩, HBr.out⟩
                  · simp [results, Tryd.results57, go_sem]
                  · rw [if_pos HOE.out, ← HP.out]
                    refine ⟨⟨⟨some ⟨sb, soff, none⟩, sc⟩, rfl, HSr.out⟩, ⟨⟨a', cp⟩, rfl, ?_⟩⟩
                    unfold IntsS
                    rw [widL_len]
                    refine ⟨HRO.out.le, HRO.out.max, fun i j hi hj => ?_⟩
                    obtain ⟨b, off, h1, h2⟩ := HRO.out.cell i j hi hj
                    exact ⟨b, off, h1, h2.trans (by simp only [intC]; rw [widL_at F P hi])⟩
end Go.Proofs.YtahgbecfaihfpaaDoor
