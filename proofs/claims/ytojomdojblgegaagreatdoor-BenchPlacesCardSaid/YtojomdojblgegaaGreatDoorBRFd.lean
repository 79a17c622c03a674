/-
  ref.Find.
-/
import Derived.Test.YtojomdojblgegaaGreatDoorBRPf
import Derived.Test.YtojomdojblgegaaGreatDoorBFnd
import Derived.Test.YtojomdojblgegaaGreatDoorBRA
namespace Go.Proofs.YtojomdojblgegaaGreatDoor
open Go.RowKit D
set_option linter.unusedVariables false
set_option linter.unusedSimpArgs false
attribute [local go_sem high] run_minI run_maxI
attribute [local go_sem] upon2 cls_cell cls_frozen forall_const exists_eq_left'
attribute [local go_sem] FirstUpon atBlk_cell
theorem plK_bd {gs : List Gap} {L : List IxG} {N : List Note} {f : Nat} (hgi : (∀ x ∈ gs, GapIn x) ∧ gs.length ≤ 200001) (hso : ∀ x ∈ L, SumOk gs x) (hf : f ≤ 200000) : ∀ k, k ≤ L.length → -100000000000 * (k : Int) ≤ (plK gs L N f k).lo ∧ (plK gs L N f k).lo ≤ 300000 + 100000000000 * (k : Int) ∧ -100000000000 * (k : Int) ≤ (plK gs L N f k).hi ∧ (plK gs L N f k).hi ≤ 300000 + 100000000000 * (k : Int)
  | 0, _ => by
    have := picB_in N f
    show -100000000000 * ((0 : Nat) : Int) ≤ picB N f ∧ picB N f ≤ _ ∧ _ ≤ picB N f ∧ picB N f ≤ _
    omega
  | k + 1, hk => by
    have h := plK_bd (N := N) hgi hso hf k (by omega)
    have hX := hso _ (ixD_mem (L := L) (a := k) (by omega))
    rw [plK_succ (by omega), ← ptR_part]
    have hl := hX.len
    have h1 := List.length_filter_le (pfI gs f) (L.getD k ([], ⟨0, 0⟩)).1
    have h2 := List.length_filter_le (fun i => !pfI gs f i) (L.getD k ([], ⟨0, 0⟩)).1
    have hb := ptR_bd (is := (L.getD k ([], ⟨0, 0⟩)).2) (fun i (hi : i ∈ (L.getD k ([], ⟨0, 0⟩)).1.filter (pfI gs f)) => hX.lt i (List.mem_filter.1 hi).1) (fun i (hi : i ∈ (L.getD k ([], ⟨0, 0⟩)).1.filter fun i => !pfI gs f i) => hX.lt i (List.mem_filter.1 hi).1) hgi.1 (by omega) (by omega) hX.is
    dsimp only
    omega
theorem place_bd {gs : List Gap} {L : List IxG} {N : List Note} {f : Nat} (hgi : (∀ x ∈ gs, GapIn x) ∧ gs.length ≤ 200001) (hso : ∀ x ∈ L, SumOk gs x) (hl : L.length ≤ 100) (hf : f ≤ 200000) : -20000000000000 ≤ (placeG N (L.map (toG gs)) f).lo ∧ (placeG N (L.map (toG gs)) f).lo ≤ 20000000000000 ∧ -20000000000000 ≤ (placeG N (L.map (toG gs)) f).hi ∧ (placeG N (L.map (toG gs)) f).hi ≤ 20000000000000 := by
  have h := plK_bd (N := N) hgi hso hf L.length (Nat.le_refl _)
  rw [plK_all] at h
  omega
theorem spD_set {P : List Span} {q i : Nat} {x : Span} (hq : q < P.length) : spD (P.set q x) i = if i = q then x else spD P i := by
  unfold spD
  rw [List.getD_eq_getElem?_getD, List.getD_eq_getElem?_getD, List.getElem?_set]
  by_cases h : q = i
  · subst h; simp [hq]
  · rw [if_neg h, if_neg (fun h' => h h'.symm)]
theorem spC_hi {P : List Span} {q i j : Nat} {k : Int} (hq : q < P.length) (hj : j < 2) : (if i = q ∧ j = 1 then Value.int .i64 k else spC P i j) = spC (P.set q { spD P q with hi := k }) i j := by
  unfold spC
  rw [spD_set hq]
  by_cases h : i = q
  · subst h
    rw [if_pos rfl]
    rcases j with _ | _ | j
    · simp
    · simp
    · omega
  · rw [if_neg h, if_neg (fun hh => h hh.1)]
set_option maxRecDepth 100000 in
set_option maxHeartbeats 8000000 in
theorem findFR_any {T : Task} {t : TSl} {wh : Int} {w : World} (hT : TaskAt w T t) : Calls Tryz.prog 22 #[.agg #[.string T.reel.name, .int .i64 T.reel.gauge, .int .i64 T.reel.base, .int .i64 T.reel.frames, .int .i64 T.reel.ylo, .int .i64 T.reel.yhi, .int .i64 T.reel.keep, .slice t.r.m.a T.reel.marks.length t.r.m.cap, .slice t.r.s.a T.reel.syms.length t.r.s.cap, .slice t.r.l.a T.reel.lens.length t.r.l.cap, .int .i64 T.whole.lo, .int .i64 T.whole.hi, .slice t.n.a T.notes.length t.n.cap], .int .i64 wh] w (FndOut w (findAns T wh)) := by
  obtain ⟨E, hE⟩ : ∃ E, E = (checkV T).2.2 := ⟨_, rfl⟩
  have HV := Lib.hid fun (W : World) (hW : Ext2 w W) => validR_any (hT.below hW)
  have HT := Lib.hid hT
  rw [← hE] at HV
  have HEE := Lib.hid hE
  have han : findAns T wh = if E ≠ 0 then ([], E) else if inB wh 0 399999 = false then ([], 7) else if okT T = false then ([], 9) else (findV (standV T.notes) T.reel.frames.toNat (grpsT T).1 wh, 0) := by rw [hE]; rfl
  have HAN := Lib.hid han
  clear hT hE han
  go_enter Tryz.func22, Tryz.ntmps22
  go_upto_region 1 with (fail)
  refine wp_name ?_
  intro w3 hw3
  obtain ⟨n2, hn2⟩ : ∃ n, n = w.heap.size := ⟨_, rfl⟩
  have x2 : w3.heap[n2]? = some (Obj.cells #[.string T.reel.name, .int .i64 T.reel.gauge, .int .i64 T.reel.base, .int .i64 T.reel.frames, .int .i64 T.reel.ylo, .int .i64 T.reel.yhi, .int .i64 T.reel.keep, .slice t.r.m.a T.reel.marks.length t.r.m.cap, .slice t.r.s.a T.reel.syms.length t.r.s.cap, .slice t.r.l.a T.reel.lens.length t.r.l.cap, .int .i64 T.whole.lo, .int .i64 T.whole.hi, .slice t.n.a T.notes.length t.n.cap] 38) := by rw [hw3, hn2]; exact blk_new _ _
  have hE3 : Ext2 w w3 := by rw [hw3]; exact below_alloc' _ _
  rw [← hn2]
  have HE3 := Lib.hid hE3; have X2 := Lib.hid x2
  clear hw3 hn2 hE3
  have q2c := cell_blk x2
  have q2f := frz_blk x2
  clear x2
  go_wp2_with (fail)
  (with_reducible refine (HV.out _ HE3.out).mono ?_)
  rintro e w4 ⟨rfl, hE4⟩
  have HE4 := Lib.hid (ext_trans HE3.out hE4); have X24 := Lib.hid (Ext2.blk hE4 X2.out)
  have x2 := X24.out
  clear q2c q2f hE4 HV X2 HE3
  have q2c := cell_blk x2
  have q2f := frz_blk x2
  clear x2
  by_cases h0 : E = 0
  case neg =>
    have hb : (E != 0) = true := by simpa using h0
    have hb2 : (E == 0) = false := by simpa using h0
    have HA : Hid (findAns T wh = ([], E)) := Lib.hid (by rw [HAN.out, if_pos h0])
    clear h0
    go_wp2_with (fail)
    go_ret2
    exact fnd_none HA.out HE4.out
  subst h0
  have hc := HEE.out.symm
  have htp := task_p hc
  have hfr := htp.fr; have hF1 := htp.F1
  have han := HAN.out
  rw [if_neg (by simp)] at han
  have HOP := Lib.hid fun (W : World) (hW : Ext2 w W) => openR_any (HT.out.below hW) hc
  have HPC := Lib.hid fun (ns : Sl) (W : World) (hN : NotesS W ns (standV T.notes)) => piecesR_any (t := t) hfr hF1.2 hN
  have hgi := gapsT_in hc; have hso := sumsT_ok hc; have hsl := sumsT_len hc
  rw [← (sumsT_grps T).1] at han
  obtain ⟨N, hN⟩ : ∃ N, N = standV T.notes := ⟨_, rfl⟩
  obtain ⟨gs, hgs⟩ : ∃ N, N = (gapsT T).1 := ⟨_, rfl⟩
  obtain ⟨K, hK⟩ : ∃ N, N = (gapsT T).2 := ⟨_, rfl⟩
  obtain ⟨⟨L, R⟩, hLR⟩ : ∃ N, N = sumsT T := ⟨_, rfl⟩
  obtain ⟨v, hv⟩ : ∃ N, N = okT T := ⟨_, rfl⟩
  obtain ⟨F, hF⟩ : ∃ N, N = T.reel.frames.toNat := ⟨_, rfl⟩
  rw [← hN, ← hgs, ← hK, ← hLR, ← hv] at HOP
  rw [← hN, ← hF] at HPC
  rw [← hN, ← hgs, ← hLR, ← hv, ← hF] at han
  rw [← hF] at hF1
  rw [← hgs] at hgi hso
  rw [← hLR] at hso hsl
  dsimp only at han hso hsl HOP
  unfold OpenOut at HOP
  obtain ⟨al, hal⟩ : ∃ l, l = L.map (toG gs) := ⟨_, rfl⟩
  rw [← hal] at han
  have HPLC : Hid (∀ {sn sg ss sk sw : Sl} {hs : Nat → Sl} {f : Nat} {W : World}, BookS W N gs L K R sn sg ss sk sw hs → f ≤ 200000 → Calls Tryz.prog 56 #[.agg #[.slice sn.a N.length sn.cap, .slice sg.a gs.length sg.cap, .slice ss.a L.length ss.cap, .slice sk.a K.length sk.cap, .slice sw.a R.length sw.cap], .int .i64 (f : Int)] W fun e w' => e = .returned (.agg #[.int .i64 (placeG N al f).lo, .int .i64 (placeG N al f).hi]) ∧ Below W.heap.size W w') := Lib.hid fun hB hf => by rw [hal]; exact placeR_any hB hgi hso hsl hf
  have HPBD : Hid (∀ f : Nat, f ≤ 200000 → -20000000000000 ≤ (placeG N al f).lo ∧ (placeG N al f).lo ≤ 20000000000000 ∧ -20000000000000 ≤ (placeG N al f).hi ∧ (placeG N al f).hi ≤ 20000000000000) := Lib.hid fun f hf => by rw [hal]; exact place_bd hgi hso hsl hf
  have HAN2 := Lib.hid han; have HF1 := Lib.hid hF1
  obtain ⟨iv, hiv⟩ : ∃ v, v = inB wh 0 399999 := ⟨_, rfl⟩
  have HIN := inR_b hiv
  have HIV := Lib.hid hiv
  clear hc htp hfr hF1 han hgi hso hsl hN hgs hK hLR hv hiv HT HAN hF hal
  go_wp2_with (fail)
  (with_reducible refine (HIN.out _).mono ?_)
  rintro e w5 ⟨rfl, hE5⟩
  have HE5 := Lib.hid (ext_trans HE4.out hE5); have X25 := Lib.hid (Ext2.blk hE5 X24.out)
  have x2 := X25.out
  clear q2c q2f hE5 HIN X24 HE4
  have q2c := cell_blk x2
  have q2f := frz_blk x2
  clear x2
  cases iv with
  | false =>
    have HA : Hid (findAns T wh = ([], 7)) := Lib.hid (by rw [HAN2.out, if_pos HIV.out.symm])
    go_wp2_with (fail)
    go_ret2
    exact fnd_none HA.out HE5.out
  | true =>
    have hin := inB_iff.1 HIV.out.symm
    have HWH := Lib.hid hin
    have han := HAN2.out
    rw [if_neg (by rw [← HIV.out]; simp)] at han
    have HAN3 := Lib.hid han
    clear han hin HAN2 HIV
    go_wp2_with (fail)
    (with_reducible refine (HOP.out _ HE5.out).mono ?_)
    rintro e w6 ⟨⟨sn, sg, ss, sk, sw, hs, rfl, hB6⟩, hE6⟩
    have HE6 := Lib.hid (ext_trans HE5.out hE6); have HB6 := Lib.hid hB6; have X26 := Lib.hid (Ext2.blk hE6 X25.out)
    clear q2c q2f hE6 hB6 HOP X25 HE5
    go_upto_region 7 with (fail)
    refine wp_name ?_
    intro w7 hw7
    obtain ⟨n7, hn7⟩ : ∃ n, n = w6.heap.size := ⟨_, rfl⟩
    have x7 : w7.heap[n7]? = some (.cells #[.slice sn.a N.length sn.cap, .slice sg.a gs.length sg.cap, .slice ss.a L.length ss.cap, .slice sk.a K.length sk.cap, .slice sw.a R.length sw.cap] 110 (0, 0)) := by rw [hw7, hn7]; exact blk_new _ _
    have hE7 : Ext2 w6 w7 := by rw [hw7]; exact below_alloc' _ _
    rw [← hn7]
    have HE7 := Lib.hid (ext_trans HE6.out hE7); have HB7 := Lib.hid (HB6.out.below hE7); have X7 := Lib.hid x7; have X27 := Lib.hid (Ext2.blk hE7 X26.out)
    clear hw7 hn7 hE7 HB6 X26 HE6
    cases v with
    | false =>
      have HA : Hid (findAns T wh = ([], 9)) := Lib.hid (by rw [HAN3.out, if_pos rfl])
      go_wp2_with (fail)
      go_ret2
      exact fnd_none HA.out HE7.out
    | true =>
    have HA : Hid (findAns T wh = (findV N F al wh, 0)) := Lib.hid (by rw [HAN3.out, if_neg (by simp)])
    have x2 := X27.out
    have hpc := HPC.out sn _ HB7.out.n
    have hpin := pieceK_inv N F
    have hpl := pieceK_len N F
    have hvk : findV N F al wh = fndK N F al wh (pieceK N F).length := by unfold findV fndK; rw [List.take_length]
    have HFS := Lib.hid fun k (hk : k < (pieceK N F).length) => fndK_succ (N := N) (F := F) (al := al) (wh := wh) hk
    have HFL := Lib.hid fun k (hk : k ≤ (pieceK N F).length) => fndK_len (N := N) (F := F) (al := al) (wh := wh) hk
    obtain ⟨Pc, hPc⟩ : ∃ P, P = pieceK N F := ⟨_, rfl⟩
    rw [← hPc] at hpc hpin hpl hvk HFS HFL
    obtain ⟨m, hm⟩ : ∃ n, n = Pc.length := ⟨_, rfl⟩
    rw [← hm] at hpc hpl hvk
    have HPC2 := Lib.hid hpc; have HM := Lib.hid hm; have HVK := Lib.hid hvk
    have hm2 : m ≤ 200000 := by have := HF1.out; omega
    have HCH := Lib.hid hpin.chain
    clear hpc hpin hpl hvk hPc hm HAN3 HPC
    have q2c := cell_blk x2
    have q2f := frz_blk x2
    have q7c := cell_blk x7
    have q7f := frz_blk x7
    clear x2 x7
    go_wp2_with (fail)
    (with_reducible refine HPC2.out.mono ?_)
    rintro e w9 ⟨⟨⟨pa, pc⟩, rfl, hPS⟩, hE9⟩
    have hple := hPS.le; have hpmx := hPS.max
    rw [← HM.out] at hple
    dsimp only at hple hpmx
    have HE9 := Lib.hid (ext_trans HE7.out hE9); have HB9 := Lib.hid (HB7.out.below hE9); have X79 := Lib.hid (Ext2.blk hE9 X7.out); have HPS := Lib.hid hPS
    clear q2c q2f q7c q7f hE9 hPS HB7 X27 X7 HE7 HPC2
    go_wp2_with (fail)
    go_loopw [9, 11] (fun ov iv W => ∃ k : Nat, iv = .int .i64 k ∧ k ≤ m ∧ Ext2 w9 W ∧ OwnR W w9.heap.size 31 2 ov (fndK N F al wh k).length (spC (fndK N F al wh k))) (fun _ iv _ => m - (intOf iv).toNat)
    case atStart => exact ⟨0, rfl, by omega, Below.refl _ _, own_nil _ _ _ _ _⟩
    case round =>
      obtain ⟨k, rfl, hk, hE, hO⟩ := hrel
      have hfl := HFL.out k (by rw [← HM.out]; exact hk)
      have hfs := HFS.out k
      obtain ⟨⟨oa, oc⟩, hov, hR⟩ := OwnR.sl hO
      dsimp only at hov
      subst hov
      have hle := hR.le; have hmx := hR.max
      obtain ⟨P, hP⟩ : ∃ P, P = fndK N F al wh k := ⟨_, rfl⟩
      rw [← hP] at hfl hfs hO hR hle ⊢
      obtain ⟨n, hn⟩ : ∃ n, n = P.length := ⟨_, rfl⟩
      rw [← hn] at hfl hO hle ⊢
      dsimp only at hle hmx
      have HE := Lib.hid hE; have HO := Lib.hid hO; have HNP := Lib.hid hn; have HPP := Lib.hid hP; have HPL : Hid (n ≤ 200000) := Lib.hid (by omega); have HR := Lib.hid hR
      have x7 := Ext2.blk hE X79.out
      have q7c := cell_blk x7
      have q7f := frz_blk x7
      clear hE hO hn hP hR hfl x7
      by_cases hkm : k < m
      · have hkl : k < Pc.length := by rw [← HM.out]; exact hkm
        obtain ⟨b, off, hpa, c0, c1, c2⟩ := pc_cells (HPS.out.below HE.out) (i := k) hkl
        dsimp only at hpa
        subst hpa
        have hfs2 := hfs hkl
        have hpm : pcD Pc k ∈ Pc := by unfold pcD; rw [List.getD_eq_getElem?_getD, List.getElem?_eq_getElem hkl]; exact List.getElem_mem hkl
        have hpb := HCH.out.mem _ hpm
        obtain ⟨p, hp⟩ : ∃ p, p = pcD Pc k := ⟨_, rfl⟩
        rw [← hp] at c0 c1 c2 hfs2 hpb
        obtain ⟨pf, pu, pl⟩ := p
        dsimp only at c0 c1 c2 hpb
        have HFS2 := Lib.hid hfs2; have HPB := Lib.hid hpb
        have g1 : (0 : Int) ≤ (k : Int) := by omega
        have g2 : (k : Int) < (m : Int) := by omega
        have e1 : decide ((0 : Int) ≤ (k : Int)) = true := decide_eq_true g1
        have e2 : decide ((k : Int) < (m : Int)) = true := decide_eq_true g2
        have w1' : IntKind.i64.wrap ((k : Int) + 1) = (k : Int) + 1 := IntWalk.i64_in _ (by omega)
        clear hfs hfs2 hpm hpb hp hkl
        cases pl with
        | true =>
          have HK : Hid (fndK N F al wh (k + 1) = P) := Lib.hid (by rw [HFS2.out]; unfold findS; rw [if_pos rfl])
          go_wp2_with (fail)
          go_roundw
          case rel => exact ⟨k + 1, by go_num, by omega, HE.out, by rw [HK.out, ← HNP.out]; exact HO.out⟩
          case measure => simp [intOf]; omega
        | false =>
          have hpb := HPB.out; have hF1 := HF1.out; have hwh := HWH.out
          obtain ⟨fn, hfn⟩ : ∃ n : Nat, n = pf.toNat := ⟨_, rfl⟩
          have hpf : pf = (fn : Int) := by omega
          subst hpf
          have hfb : fn ≤ 200000 := by omega
          have hvb := HPBD.out fn hfb
          obtain ⟨V, hV⟩ : ∃ V, V = placeG N al fn := ⟨_, rfl⟩
          rw [← hV] at hvb
          have HPR : Hid (∀ W, Ext2 wr W → Calls Tryz.prog 56 #[.agg #[.slice sn.a N.length sn.cap, .slice sg.a gs.length sg.cap, .slice ss.a L.length ss.cap, .slice sk.a K.length sk.cap, .slice sw.a R.length sw.cap], .int .i64 (fn : Int)] W fun e w' => e = .returned (.agg #[.int .i64 V.lo, .int .i64 V.hi]) ∧ Below W.heap.size W w') := Lib.hid fun W hW => by rw [hV]; exact HPLC.out (HB9.out.below (ext_trans HE.out hW)) hfb
          obtain ⟨S, hS⟩ : ∃ S, S = comS ⟨(fn : Int), pu⟩ ⟨(fn : Int) + wh - V.hi, (fn : Int) + wh - V.lo⟩ := ⟨_, rfl⟩
          have hst : fndK N F al wh (k + 1) = if S.hi < S.lo then P else if 0 < n ∧ (spD P (n - 1)).hi = S.lo - 1 then P.set (n - 1) { spD P (n - 1) with hi := S.hi } else P ++ [S] := by
            rw [HFS2.out, HNP.out]; unfold findS
            rw [if_neg (by simp)]
            simp only [Int.toNat_natCast, ← hV, ← hS]
          have hsl : S.lo = max (fn : Int) ((fn : Int) + wh - V.hi) := by rw [hS]; rfl
          have hsh : S.hi = min pu ((fn : Int) + wh - V.lo) := by rw [hS]; rfl
          have hsb : -100000000000000 ≤ S.lo ∧ S.lo ≤ 100000000000000 := by omega
          have w2' : IntKind.i64.wrap ((fn : Int) + wh) = (fn : Int) + wh := IntWalk.i64_in _ (by omega)
          have w3' : IntKind.i64.wrap ((fn : Int) + wh - V.hi) = (fn : Int) + wh - V.hi := IntWalk.i64_in _ (by omega)
          have w4' : IntKind.i64.wrap ((fn : Int) + wh - V.lo) = (fn : Int) + wh - V.lo := IntWalk.i64_in _ (by omega)
          have HST := Lib.hid hst; have HSL := Lib.hid hsl; have HSH := Lib.hid hsh; have HSB := Lib.hid hsb
          have W2 := Lib.hid w2'; have W3 := Lib.hid w3'; have W4 := Lib.hid w4'; have C0 := Lib.hid c0; have C1 := Lib.hid c1
          clear hpb hF1 hwh hfn hfb hvb hV hS hst hsl hsh hsb HFS2 w2' w3' w4'
          go_upto_region 15 with (fail)
          refine region_ev [] [0, 1, 2, 3, 4, 5, 6] [(7, 12, some 8)] [] (by kernel_rfl) (by kernel_rfl) (by intro c a d v w h; cases d <;> exact h) ?_
          simp only [picks, List.drop_succ_cons, List.drop_zero]
          repeat (refine wpQ0_step (fun K hK => ?_); go_simp; (refine hK _ ?_; clear hK K))
          refine wpQ0_nil ?_
          repeat ((with_reducible refine wpQ2_step (fun K hK => ?_)); go_simp; first | ((with_reducible refine hK _ ?_); clear hK K) | (apply Exists.intro; refine ⟨fun x => ?_, hK _ ?_⟩; ((with_reducible exact HPR.out x.1 x.2)); clear hK K) | (refine ite_undef (fun h => (by have h_ : (none : Option Bool) = some _ := h; cases h_)) ?_; (with_reducible refine hK _ ?_); clear hK K))
          (with_reducible refine wpQ2_nil ?_)
          refine Events.fill1 (fun b => .pointer (some ⟨b, 0, none⟩)) (Obj.cells #[.int .i64 (0), .int .i64 (0)] 31) (Obj.cells #[.int .i64 V.lo, .int .i64 V.hi] 31) ⟨_, rfl, rfl, rfl, fun W => by kernel_rfl⟩ ⟨_, rfl, rfl, rfl, fun b W hb => ?_⟩ fun n12 w10 hn12 hg10 nn12 => ?_
          · have hbc := cell_blk hb; have hbf := frz_blk hb; go_simp; exact turn_two hb _ _
          simp only [picks, List.drop_succ_cons, List.drop_zero]
          have HE10 := Lib.hid (ext_trans HE.out hg10); have HO10 := Lib.hid (HO.out.below hg10)
          have Y12 := Lib.hid nn12
          have c0 := ext_cell' hg10 C0.out; have c1 := ext_cell' hg10 C1.out
          have y12 := nn12
          clear q7c q7f c2 hg10 hn12 nn12 HPR HE HO
          have q12c := cell_blk y12
          have q12f := frz_blk y12
          clear y12
          have w2' := W2.out; have w3' := W3.out; have w4' := W4.out
          go_upto_region 16 with (fail)
          refine region_ev [] [0, 1, 2, 3, 4, 5, 6, 7, 8, 9, 10, 11, 12, 13, 14, 15, 16, 17, 18, 19, 20, 21, 22, 23, 24, 25, 26, 27, 28, 29, 30, 31, 32] [(33, 13, some 34)] [] (by kernel_rfl) (by kernel_rfl) (by intro c a d v w h; cases d <;> exact h) ?_
          simp only [picks, List.drop_succ_cons, List.drop_zero]
          repeat (refine wpQ0_step (fun K hK => ?_); go_simp; (refine hK _ ?_; clear hK K))
          refine wpQ0_nil ?_
          repeat ((with_reducible refine wpQ2_step (fun K hK => ?_)); go_simp; first | ((with_reducible refine hK _ ?_); clear hK K) | (apply Exists.intro; refine ⟨fun x => ?_, hK _ ?_⟩; (fail); clear hK K) | (refine ite_undef (fun h => (by have h_ : (none : Option Bool) = some _ := h; cases h_)) ?_; (with_reducible refine hK _ ?_); clear hK K))
          (with_reducible refine wpQ2_nil ?_)
          refine Events.fill1 (fun b => .pointer (some ⟨b, 0, none⟩)) (Obj.cells #[.int .i64 (0), .int .i64 (0)] 31) (Obj.cells #[.int .i64 (max (fn : Int) ((fn : Int) + wh - V.hi)), .int .i64 (min pu ((fn : Int) + wh - V.lo))] 31) ⟨_, rfl, rfl, rfl, fun W => by kernel_rfl⟩ ⟨_, rfl, rfl, rfl, fun b W hb => ?_⟩ fun n13 w11 hn13 hg11 nn13 => ?_
          · have hbc := cell_blk hb; have hbf := frz_blk hb; go_simp; exact turn_two hb _ _
          simp only [picks, List.drop_succ_cons, List.drop_zero]
          have y13 : w11.heap[n13]? = some (Obj.cells #[.int .i64 S.lo, .int .i64 S.hi] 31) := by rw [HSL.out, HSH.out]; exact nn13
          have HE11 := Lib.hid (ext_trans HE10.out hg11); have HO11 := Lib.hid (HO10.out.below hg11); have Y13 := Lib.hid y13
          have hsb := HSB.out; have hst := HST.out
          have w5' : IntKind.i64.wrap (S.lo - 1) = S.lo - 1 := IntWalk.i64_in _ (by omega)
          clear q12c q12f c0 c1 hg11 hn13 nn13 HE10 HO10 w2' w3' w4' hsb
          have q13c := cell_blk y13
          have q13f := frz_blk y13
          clear y13
          by_cases hs : S.hi < S.lo
          · have d1 : decide (S.hi < S.lo) = true := decide_eq_true hs
            have HK : Hid (fndK N F al wh (k + 1) = P) := Lib.hid (by rw [hst, if_pos hs])
            clear hst
            go_wp2_with (fail)
            go_roundw
            case rel => exact ⟨k + 1, by go_num, by omega, HE11.out, by rw [HK.out, ← HNP.out]; exact HO11.out⟩
            case measure => simp [intOf]; omega
          · have d1 : decide (S.hi < S.lo) = false := decide_eq_false hs
            have d2 : ¬ S.hi < S.lo := hs
            rw [if_neg hs] at hst
            clear hs
            rcases Nat.eq_zero_or_pos n with h0 | h0
            · subst h0
              have HK : Hid (fndK N F al wh (k + 1) = P ++ [S]) := Lib.hid (by rw [hst, if_neg (fun h => absurd h.1 (by omega))])
              have e0 : IntKind.i64.wrap ((0 : Int) - 1) = -1 := by decide
              clear hst
              go_upto_region 19 with (fail)
              refine region_ev [] [0, 1, 2, 3, 4, 5, 6, 7, 8, 9, 10, 11, 12] [] [] (by kernel_rfl) (by kernel_rfl) (by intro c a d v w h; cases d <;> exact h) ?_
              simp only [picks, List.drop_succ_cons, List.drop_zero]
              repeat (refine wpQ0_step (fun K hK => ?_); go_simp; (refine hK _ ?_; clear hK K))
              refine wpQ0_nil ?_
              repeat ((with_reducible refine wpQ2_step (fun K hK => ?_)); go_simp; first | ((with_reducible refine hK _ ?_); clear hK K) | (apply Exists.intro; refine ⟨fun x => ?_, hK _ ?_⟩; (fail); clear hK K) | (refine ite_undef (fun h => (by have h_ : (none : Option Bool) = some _ := h; cases h_)) ?_; (with_reducible refine hK _ ?_); clear hK K))
              (with_reducible refine wpQ2_nil ?_)
              refine Events.none_ fun w12 hg12 => ?_
              simp only [picks, List.drop_succ_cons, List.drop_zero]
              have HE12 := Lib.hid (ext_trans HE11.out hg12); have HO12 := Lib.hid (HO11.out.below hg12)
              have y13 := Ext2.blk hg12 Y13.out
              clear q13c q13f hg12 HE11 HO11
              have q13c := cell_blk y13
              have q13f := frz_blk y13
              clear y13
              go_wp2_with (at_builtin; go_loud (refine app_one_at [.int .i64 S.lo, .int .i64 S.hi] elSpan rfl _ _ rfl w9.heap.size rfl (HO12.out.below (below_alloc' _ _)) w12.heap.size 1 rfl (blk_new _ _) (by simp [Value.oneCell']) (by have := HPL.out; omega) (by have := HE12.out.size; simp; omega) ?_; intro v' w14 hO14 hg14 _; (have HE14 := Lib.hid (ext_grown (ext_trans HE12.out (below_alloc' _ _)) hg14 (own_block HO12.out))); (have HO14 : Hid (OwnR w14 w9.heap.size 31 2 v' (0 + 1) (spC (P ++ [S]))) := Lib.hid (by have hl : P.length = 0 := HNP.out.symm; have h7 := own_sp (w := w14) (base := w9.heap.size) (e := 31) (v := v') (L := P) (x := S) (by rw [hl]; exact hO14); rwa [List.length_append, List.length_singleton, hl] at h7)); clear hO14 hg14))
              go_roundw
              case rel => exact ⟨k + 1, by go_num, by omega, HE14.out, by rw [HK.out, List.length_append, List.length_singleton, show P.length = 0 from HNP.out.symm]; exact HO14.out⟩
              case measure => simp [intOf]; omega
            · obtain ⟨q, rfl⟩ : ∃ q, n = q + 1 := ⟨n - 1, by omega⟩
              obtain ⟨g, off2, hga, a0, a1⟩ := sp_cells (HO11.out.sl.elim fun s h => by
                obtain ⟨hv, hr⟩ := h
                have : RowS w11 ⟨oa, oc⟩ 2 (q + 1) (spC P) := own_row HO11.out
                rw [HNP.out] at this
                exact this) (i := q) (by rw [← HNP.out]; omega)
              dsimp only at hga
              subst hga
              obtain ⟨g', cap', hv', hG3, -, -, hRC, hfz⟩ := own_some HO11.out (by omega)
              obtain ⟨rfl, rfl⟩ : g = g' ∧ off2 = 0 := by
                have : (⟨g, off2, none⟩ : Addr) = ⟨g', 0, none⟩ := by injection hv' with h1 _ _; exact Option.some.inj h1
                cases this; exact ⟨rfl, rfl⟩
              have HG3 := Lib.hid hG3
              rw [Nat.zero_add] at a1
              rw [show q + 1 - 1 = q by omega] at hst
              obtain ⟨ph, hph⟩ : ∃ b, b = (spD P q).hi := ⟨_, rfl⟩
              rw [← hph] at a1
              have hst2 : fndK N F al wh (k + 1) = if 0 < q + 1 ∧ ph = S.lo - 1 then P.set q { spD P q with hi := S.hi } else P ++ [S] := by rw [hst, hph]
              have w6' : IntKind.i64.wrap (((q + 1 : Nat) : Int) - 1) = (q : Int) := by rw [IntWalk.i64_in _ (by have := HPL.out; omega)]; omega
              have w7' : IntKind.i64.wrap ((q : Int) + 1 - 1) = (q : Int) := by rw [IntWalk.i64_in _ (by have := HPL.out; omega)]; omega
              have g3 : (0 : Int) ≤ (q : Int) := by omega
              have g4 : (q : Int) < (q : Int) + 1 := by omega
              have e3 : decide ((0 : Int) ≤ (q : Int)) = true := decide_eq_true g3
              have e4 : decide ((q : Int) < (q : Int) + 1) = true := decide_eq_true g4
              have A1 := Lib.hid a1; have HST2 := Lib.hid hst2
              clear hst hst2 hph hv' hRC hfz a0 hG3
              by_cases hpk : ph = S.lo - 1
              · have HK : Hid (fndK N F al wh (k + 1) = P.set q { spD P q with hi := S.hi }) := Lib.hid (by rw [HST2.out, if_pos ⟨by omega, hpk⟩])
                have b1 : (ph == S.lo - 1) = true := by simpa using hpk
                clear hpk HST2
                go_upto_region 19 with (fail)
                refine region_ev [] [0, 1, 2, 3, 4, 5, 6, 7, 8, 9, 10, 11, 12] [] [] (by kernel_rfl) (by kernel_rfl) (by intro c a d v w h; cases d <;> exact h) ?_
                simp only [picks, List.drop_succ_cons, List.drop_zero]
                repeat (refine wpQ0_step (fun K hK => ?_); go_simp; (refine hK _ ?_; clear hK K))
                refine wpQ0_nil ?_
                repeat ((with_reducible refine wpQ2_step (fun K hK => ?_)); go_simp; first | ((with_reducible refine hK _ ?_); clear hK K) | (apply Exists.intro; refine ⟨fun x => ?_, hK _ ?_⟩; (fail); clear hK K) | (refine ite_undef (fun h => (by have h_ : (none : Option Bool) = some _ := h; cases h_)) ?_; (with_reducible refine hK _ ?_); clear hK K))
                (with_reducible refine wpQ2_nil ?_)
                refine Events.none_ fun w12 hg12 => ?_
                simp only [picks, List.drop_succ_cons, List.drop_zero]
                have HE12 := Lib.hid (ext_trans HE11.out hg12); have HO12 := Lib.hid (HO11.out.below hg12)
                have y13 := Ext2.blk hg12 Y13.out
                replace a1 := ext_cell' hg12 A1.out
                have f1 : w12.frozen? ⟨g, q * 2 + 1, none⟩ = false := (own_some HO12.out (by omega)).elim fun g2 h => by
                  obtain ⟨cap2, h1, -, -, -, -, h2⟩ := h
                  have : g = g2 := by injection h1 with h1 _ _; cases h1; rfl
                  subst this; exact h2 _
                clear q13c q13f hg12 HE11 HO11
                have q13c := cell_blk y13
                have q13f := frz_blk y13
                clear y13
                go_wp2_with (fail)
                go_roundw
                case rel => exact ⟨k + 1, by go_num, by omega, below_set HE12.out HG3.out, by rw [HK.out, List.length_set, show P.length = q + 1 from HNP.out.symm]; have h7 := OwnR.set (j := 1) (i := q) HO12.out (by omega) (by omega) (.int .i64 S.hi); exact OwnR.congr h7 fun i j hi hj => spC_hi (by rw [← HNP.out]; omega) hj⟩
                case measure => simp [intOf]; omega
              · have HK : Hid (fndK N F al wh (k + 1) = P ++ [S]) := Lib.hid (by rw [HST2.out, if_neg (fun h => hpk h.2)])
                have b1 : (ph == S.lo - 1) = false := by simpa using hpk
                clear hpk HST2
                go_upto_region 19 with (fail)
                refine region_ev [] [0, 1, 2, 3, 4, 5, 6, 7, 8, 9, 10, 11, 12] [] [] (by kernel_rfl) (by kernel_rfl) (by intro c a d v w h; cases d <;> exact h) ?_
                simp only [picks, List.drop_succ_cons, List.drop_zero]
                repeat (refine wpQ0_step (fun K hK => ?_); go_simp; (refine hK _ ?_; clear hK K))
                refine wpQ0_nil ?_
                repeat ((with_reducible refine wpQ2_step (fun K hK => ?_)); go_simp; first | ((with_reducible refine hK _ ?_); clear hK K) | (apply Exists.intro; refine ⟨fun x => ?_, hK _ ?_⟩; (fail); clear hK K) | (refine ite_undef (fun h => (by have h_ : (none : Option Bool) = some _ := h; cases h_)) ?_; (with_reducible refine hK _ ?_); clear hK K))
                (with_reducible refine wpQ2_nil ?_)
                refine Events.none_ fun w12 hg12 => ?_
                simp only [picks, List.drop_succ_cons, List.drop_zero]
                have HE12 := Lib.hid (ext_trans HE11.out hg12); have HO12 := Lib.hid (HO11.out.below hg12)
                have y13 := Ext2.blk hg12 Y13.out
                clear q13c q13f hg12 HE11 HO11 a1
                have q13c := cell_blk y13
                have q13f := frz_blk y13
                clear y13
                go_wp2_with (at_builtin; go_loud (refine app_one_at [.int .i64 S.lo, .int .i64 S.hi] elSpan rfl _ _ rfl w9.heap.size rfl (HO12.out.below (below_alloc' _ _)) w12.heap.size 1 rfl (blk_new _ _) (by simp [Value.oneCell']) (by have := HPL.out; omega) (by have := HE12.out.size; simp; omega) ?_; intro v' w14 hO14 hg14 _; (have HE14 := Lib.hid (ext_grown (ext_trans HE12.out (below_alloc' _ _)) hg14 (own_block HO12.out))); (have HO14 : Hid (OwnR w14 w9.heap.size 31 2 v' ((q + 1) + 1) (spC (P ++ [S]))) := Lib.hid (by have hl : P.length = (q + 1) := HNP.out.symm; have h7 := own_sp (w := w14) (base := w9.heap.size) (e := 31) (v := v') (L := P) (x := S) (by rw [hl]; exact hO14); rwa [List.length_append, List.length_singleton, hl] at h7)); clear hO14 hg14))
                go_roundw
                case rel => exact ⟨k + 1, by go_num, by omega, HE14.out, by rw [HK.out, List.length_append, List.length_singleton, show P.length = (q + 1) from HNP.out.symm]; exact HO14.out⟩
                case measure => simp [intOf]; omega
      · obtain rfl : m = k := by omega
        have hgg : ¬ (m : Int) < (m : Int) := by omega
        have hvk := HVK.out
        rw [← HPP.out] at hvk
        have HVK2 := Lib.hid hvk
        clear hvk q7c q7f
        go_wp2_with (fail)
        go_ret2
        exact ⟨⟨⟨oa, oc⟩, by rw [HA.out, HVK2.out, HNP.out]; rfl, by rw [HA.out, HVK2.out]; exact HR.out⟩, ext_trans HE9.out HE.out⟩
end Go.Proofs.YtojomdojblgegaaGreatDoor
