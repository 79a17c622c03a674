/-
  law.BenchOneList, walked.
-/
import Derived.Test.YtojomdojblgegaaGreatDoorBAwk
import Derived.Test.YtojomdojblgegaaGreatDoorBRS
import Derived.Test.YtojomdojblgegaaGreatDoorBPlO
import Derived.Test.YtojomdojblgegaaGreatDoorBArgM
import Derived.Test.YtojomdojblgegaaGreatDoorBReg
namespace Go.Proofs.YtojomdojblgegaaGreatDoor
open Go.RowKit D
set_option linter.unusedVariables false
set_option linter.unusedSimpArgs false
attribute [local go_sem high] run_minI run_maxI
attribute [local go_sem] upon2 cls_cell cls_frozen forall_const exists_eq_left'
attribute [local go_sem] FirstUpon atBlk_cell
attribute [local go_sem high] run_notes_to run_notes_from
theorem meetV4 {P : Program} {Q : Exit → Act → World → Prop} {S : World → Prop} {G : Prop} {α β γ δ : Type} {C : α → β → γ → δ → World → Prop} {l : List Oper} {t : OV} {A : α → β → γ → δ → Act} (h : (∀ n m r s u, C n m r s u → wpV P l Q S t (A n m r s) u) → G) (k : ∀ n m r s u, C n m r s u → wpV P l Q S t (A n m r s) u) : G := h k
theorem elNts : Elem Tryz.prog 22 23 (.slice none 0 0) 1 24 := ⟨by kernel_rfl, by kernel_rfl, rfl, by omega, by omega⟩
def nlC (hs : Nat → Sl) (L : List (List Note)) (i _ : Nat) : Value := .slice (hs i).a (L.getD i []).length (hs i).cap
def setH (hs : Nat → Sl) (n : Nat) (s : Sl) (i : Nat) : Sl := if i = n then s else hs i
theorem nlC_snoc {hs : Nat → Sl} {L : List (List Note)} {l : List Note} {s : Sl} {i j : Nat} (hi : i < L.length + 1) (hj : j < 1) : upd (nlC hs L) L.length [.slice s.a l.length s.cap] i j = nlC (setH hs L.length s) (L ++ [l]) i j := by
  obtain rfl : j = 0 := by omega
  have hx : (L ++ [l]).getD i [] = if i = L.length then l else L.getD i [] := getD_app1 hi
  by_cases h : i = L.length
  · subst h
    rw [upd_at]
    simp [nlC, hx, setH]
  · rw [upd_lt (by omega)]
    simp only [nlC, hx, setH, h, if_false]
theorem own_one {w : World} {base b : Nat} {e : TypeId} {v : Value} {c : Nat → Nat → Value} (hb : w.heap[b]? = some (.cells #[v] e (0, 0))) (hle : base ≤ b) (hc : c 0 0 = v) : OwnR w base e 1 (.slice (some ⟨b, 0, none⟩) 1 1) 1 c := by
  refine OwnR.congr (own_made (sz := 1) (n := 1) (z := #[v]) rfl (by omega) (by unfold maxLen; omega) hle (by
    have hm : madeCells #[v] (1 * 1) = #[v] := by
      apply Array.ext
      · simp [size_madeCells]
      · intro i h1 h2
        have h0 : i = 0 := by simpa using h2
        subst h0
        simp [madeCells]
    rw [hm]; exact hb)) fun i j hi hj => ?_
  obtain rfl : i = 0 := Nat.lt_one_iff.1 hi
  obtain rfl : j = 0 := Nat.lt_one_iff.1 hj
  rw [hc]; rfl
/-- A list ahead of others. -/
def consH (s : Sl) (hs : Nat → Sl) (i : Nat) : Sl := match i with
  | 0 => s
  | i + 1 => hs i
/-- Lists of notes of one's own, each elsewhere. -/
structure LsI (base : Nat) (L : List (List Note)) (hs : Nat → Sl) (ov : Value) (W : World) : Prop where
  own : OwnR W base 23 1 ov L.length (nlC hs L)
  each : ∀ i, i < L.length → OwnR W base 59 8 (.slice (hs i).a (L.getD i []).length (hs i).cap) (L.getD i []).length (ntC (L.getD i []))
theorem LsI.ext {base : Nat} {L : List (List Note)} {hs : Nat → Sl} {ov : Value} {W W' : World} (h : LsI base L hs ov W) (hE : Ext2 W W') : LsI base L hs ov W' := ⟨h.own.below hE, fun i hi => (h.each i hi).below hE⟩
theorem LsI.app {base : Nat} {L : List (List Note)} {hs : Nat → Sl} {ov : Value} {W W' : World} (h : LsI base L hs ov W) (hg : W.grownBy W' ov.ownBlock) {l : List Note} {s : Sl} {v' : Value} {n m : Nat} (hn : n = L.length) (hm : m = l.length) (hO : OwnR W' base 23 1 v' (n + 1) (upd (nlC hs L) n [.slice s.a m s.cap])) (hx : OwnR W base 59 8 (.slice s.a m s.cap) m (ntC l)) : LsI base (L ++ [l]) (setH hs L.length s) v' W' := by
  subst hn hm
  refine ⟨by rw [List.length_append, List.length_singleton]; exact OwnR.congr hO fun i j hi hj => nlC_snoc hi hj, fun i hi => ?_⟩
  rw [List.length_append, List.length_singleton] at hi
  have hj : (L ++ [l]).getD i [] = if i = L.length then l else L.getD i [] := getD_app1 hi
  by_cases he : i = L.length
  · subst he
    rw [if_pos rfl] at hj
    simp only [hj, setH, if_true]
    exact own_other h.own hg hx (by decide)
  · rw [if_neg he] at hj
    simp only [hj, setH, he, if_false]
    exact own_other h.own hg (h.each i (by omega)) (by decide)
set_option maxRecDepth 100000 in
set_option maxHeartbeats 8000000 in
theorem lawOneList_any {ls : List (List Note)} {s : Sl} {hs : Nat → Sl} {xs : List Int} {sx : Sl} {w : World} (hl : NListsS w s hs ls) (hx : KindS .u16 w sx xs) (hm : MaxAt w) : Calls Tryz.prog 6 #[.slice s.a ls.length s.cap, .slice sx.a xs.length sx.cap] w fun e w' => e = .returned (.bool true) ∧ Below w.heap.size w w' := by
  have H1 := Lib.hid (merge_any hl hm)
  have HMG := Lib.hid fun (L : List (List Note)) (q : Sl) (hq : Nat → Sl) (W : World) (hW : Ext2 w W) (h : NListsS W q hq L) => merge_any h (hm.below hW)
  have HA := Lib.hid fun (W : World) (hW : Ext2 w W) => awake_any (hm.below hW)
  have HSM := Lib.hid fun (s t : Sl) (l m : List Note) (W : World) (h1 : NotesS W s l) (h2 : NotesS W t m) => sameNt_any h1 h2
  have HL := Lib.hid hl; have HX := Lib.hid hx
  have hle := hl.row.le; have hmx := hl.row.max
  have hxle := hx.1.le; have hxmx := hx.1.max
  obtain ⟨sa, sc⟩ := s
  obtain ⟨xa, xc⟩ := sx
  obtain ⟨m, hml⟩ : ∃ m, m = ls.length := ⟨_, rfl⟩
  obtain ⟨xn, hxn⟩ : ∃ m, m = xs.length := ⟨_, rfl⟩
  obtain ⟨V, hV⟩ : ∃ V, V = mergeV ls := ⟨_, rfl⟩
  unfold MrgOut at H1
  rw [← hml] at H1 hle ⊢
  rw [← hxn] at hxle ⊢
  rw [← hV] at H1
  dsimp only at hle hmx hxle hxmx H1
  have HM := Lib.hid hml; have HXN := Lib.hid hxn
  obtain ⟨A, E⟩ := V
  dsimp only at H1
  obtain ⟨an, han⟩ : ∃ n, n = A.length := ⟨_, rfl⟩
  rw [← han] at H1
  have HAN := Lib.hid han; have HV := Lib.hid hV
  clear hl hm hx hml hxn hV han
  go_enter Tryz.func6, Tryz.ntmps6
  go_wp2_with (fail)
  (with_reducible refine H1.out.mono ?_)
  rintro e w4 ⟨⟨⟨s1a, s1c⟩, rfl, hN1⟩, hE4⟩
  have HE4 : Hid (Ext2 w w4) := Lib.hid hE4
  have HN1 := Lib.hid hN1
  clear hE4 hN1 H1
  by_cases h0 : E = 0
  case neg =>
    have hb : (E != 0) = true := by simpa using h0
    have hA : A = [] := by have h := merge_no (ls := ls) (by rw [← HV.out]; exact h0); rw [← HV.out] at h; exact h
    have han : an = 0 := by rw [HAN.out, hA]; rfl
    have HA4 := Lib.hid (HA.out _ HE4.out)
    subst han
    clear h0 hA
    go_wp2_with (fail)
    (with_reducible refine HA4.out.mono ?_)
    rintro e w5 ⟨rfl, hE5⟩
    have HE5 := Lib.hid (ext_trans HE4.out hE5)
    clear hE5
    go_wp2_with (fail)
    go_ret
    exact ⟨rfl, HE5.out⟩
  subst h0
  obtain ⟨hok, -⟩ := merge_ok (ls := ls) (by rw [← HV.out])
  have hm8 : m ≤ 8 := by rw [HM.out]; exact hok.n8
  have hm8' : ¬ (8 : Int) < (m : Int) := by omega
  have HOK := Lib.hid hok
  have HM8 := Lib.hid hm8
  have w0' : IntKind.i64.wrap ((m : Int) - 1) = (m : Int) - 1 := IntWalk.i64_in _ (by omega)
  clear hok
  go_wp2_with (fail)
  go_loopw [7, 8] (fun ov iv W => ∃ (k : Nat) (hq : Nat → Sl), iv = .int .i64 ((m : Int) - 1 - (k : Int)) ∧ k ≤ m ∧ Ext2 w4 W ∧ LsI w4.heap.size (otherK xs ls k) hq ov W ∧ ∀ j, j < k → (turnN xs (ls.length - 1 - j) (ls.getD (ls.length - 1 - j) [])).length ≤ 60) (fun _ iv _ => (intOf iv + 1).toNat)
  case atStart => exact ⟨0, fun _ => ⟨none, 0⟩, by rw [Int.natCast_zero, Int.sub_zero], by omega, Below.refl _ _, ⟨own_nil _ _ _ _ _, fun i hi => absurd hi (Nat.not_lt_zero i)⟩, fun j h => absurd h (by omega)⟩
  case round =>
    obtain ⟨k, hq, rfl, hk, hE, hLI, hlen⟩ := hrel
    have HE := Lib.hid hE; have HLI := Lib.hid hLI; have HLEN := Lib.hid hlen
    clear hE hLI hlen
    obtain ⟨iv, hiv⟩ : ∃ n : Int, n = (m : Int) - 1 - (k : Int) := ⟨_, rfl⟩
    rw [← hiv]
    have HIV := Lib.hid hiv
    by_cases hkm : k < m
    · obtain ⟨q, hq0⟩ : ∃ q, q = m - 1 - k := ⟨_, rfl⟩
      have hqi : iv = (q : Int) := by omega
      have hqm : q < m := by omega
      have hql : q < ls.length := by rw [← HM.out]; exact hqm
      subst hqi
      have hE0 := ext_trans HE4.out HE.out
      obtain ⟨b, off, hsa, c0⟩ := (HL.out.below hE0).cell hql
      have hxv := (HL.out.below hE0).each q hql
      dsimp only at hsa
      subst hsa
      have hmem : ls.getD q [] ∈ ls := by rw [List.getD_eq_getElem?_getD, List.getElem?_eq_getElem hql]; exact List.getElem_mem hql
      have hx60 := (HOK.out.each _ hmem).1
      have HOT : Hid (otherK xs ls (k + 1) = otherK xs ls k ++ [turnN xs q (ls.getD q [])]) := Lib.hid (by rw [otherK]; rw [show ls.length - 1 - k = q by rw [hq0, HM.out]])
      obtain ⟨x, hxx⟩ : ∃ x, x = ls.getD q [] := ⟨_, rfl⟩
      obtain ⟨⟨Sa, Sc⟩, hSS⟩ : ∃ S, S = hs q := ⟨_, rfl⟩
      rw [← hxx] at c0 hxv hx60 HOT; rw [← hSS] at c0 hxv
      obtain ⟨n, hn⟩ : ∃ n, n = x.length := ⟨_, rfl⟩
      rw [← hn] at c0 hx60
      have HXV : Hid (RowS wr ⟨Sa, Sc⟩ 8 n (ntC x)) := Lib.hid (by rw [hn]; exact hxv)
      have HN := Lib.hid hn; have HXX := Lib.hid hxx; have HQ0 := Lib.hid hq0
      have g1 : (0 : Int) ≤ (q : Int) := by omega
      have g2 : (q : Int) < (m : Int) := by omega
      have w1' : IntKind.i64.wrap ((q : Int) - 1) = (q : Int) - 1 := IntWalk.i64_in _ (by omega)
      have lb := cell_lt c0
      have nb : ¬ b = wr.heap.size := by have h : b < wr.heap.size := lb; omega
      have lb : b < wr.heap.size := lb
      have HX60 := Lib.hid hx60
      have HWZ := Lib.hid HE.out.size
      clear hxv hmem hxx hSS hn hq0 hql hE0 hiv
      go_upto_region 9 with (at_builtin; go_loud (refine app_sl_at elNote (c2 := ntC x) rfl _ _ rfl wr.heap.size rfl (own_empty (c := ntC []) (blk_new _ _) (Nat.le_refl _)) ⟨Sa, Sc⟩ n rfl (HXV.out.below (below_alloc' _ _)) (ntC_one _) (by have := HX60.out; omega) (by simp) (fun i j hi _ => absurd hi (Nat.not_lt_zero i)) (fun i j hi _ => by rw [Nat.zero_add]) ?_; intro v9 w9 hO9 hg9 _; rw [Nat.zero_add] at hO9; (obtain ⟨⟨za, zc⟩, hzv, hzr⟩ := OwnR.sl hO9); subst hzv; (have HO9 := Lib.hid hO9); (have HE9 : Hid (Ext2 wr w9) := Lib.hid (ext_grown (below_alloc' _ _) hg9 (fun k hk => by cases hk; exact Nat.le_refl _))); (have HZR := Lib.hid hzr); clear hO9 hg9 hzr))
      clear c0 lb nb
      by_cases hA : xn = 0 ∨ n = 0
      · have HTU : Hid (turnN xs q x = x) := Lib.hid (by unfold turnN; rw [if_pos (by rw [← HXN.out, ← HN.out]; exact hA)])
        rw [HTU.out] at HOT
        have HLU := Lib.hid (HLI.out.ext HE9.out)
        have HEU := Lib.hid (ext_trans HE.out HE9.out)
        have HTB : Hid (OwnR w9 w4.heap.size 59 8 (.slice za n zc) n (ntC x)) := Lib.hid (OwnR.base HO9.out HE.out.size)
        have HLK : Hid (∀ j, j < k + 1 → (turnN xs (ls.length - 1 - j) (ls.getD (ls.length - 1 - j) [])).length ≤ 60) := Lib.hid fun j hj => by
          rcases Nat.lt_or_ge j k with h | h
          · exact HLEN.out j h
          · obtain rfl : j = k := by omega
            rw [show ls.length - 1 - j = q by rw [HQ0.out, HM.out], ← HXX.out, HTU.out, ← HN.out]; exact HX60.out
        have hq0 := HQ0.out
        have h61' : ¬ (60 : Int) < (n : Int) := by have := HX60.out; omega
        by_cases hx0 : xn = 0
        · have hx0' : ¬ (0 : Int) < (xn : Int) := by omega
          clear hA hx0
          go_upto_region 14 with (fail)
          go_wp2_with (at_builtin; go_loud (refine app_one_at [.slice za n zc] elNts rfl _ _ rfl w4.heap.size rfl (HLU.out.own.below (below_alloc' _ _)) w9.heap.size 1 rfl (blk_new _ _) (by simp [Value.oneCell']) (by have h := otherK_len xs ls k; have := HM8.out; omega) (by have := HEU.out.size; simp; omega) ?_; intro v8 w8 hO8 hg8 _; (have HLa := Lib.hid (HLU.out.ext (below_alloc' w9 (.cells #[.slice za n zc] 23 (0, 0))))); (have HL8 := Lib.hid (HLa.out.app (s := ⟨za, zc⟩) hg8 rfl HN.out hO8 (HTB.out.below (below_alloc' _ _)))); (have HE8 := Lib.hid (ext_grown (ext_trans HEU.out (below_alloc' _ _)) hg8 (own_ge HLU.out.own))); clear hO8 hg8 HLa))
          go_roundw
          case rel => exact ⟨k + 1, setH hq (otherK xs ls k).length ⟨za, zc⟩, by congr 1; omega, by omega, HE8.out, by rw [HOT.out]; exact HL8.out, HLK.out⟩
          case measure => simp [intOf]; omega
        · have hx0' : (0 : Int) < (xn : Int) := by omega
          have hn0 : ¬ (0 : Int) < (n : Int) := by omega
          clear hA hx0
          go_upto_region 14 with (fail)
          go_wp2_with (at_builtin; go_loud (refine app_one_at [.slice za n zc] elNts rfl _ _ rfl w4.heap.size rfl (HLU.out.own.below (below_alloc' _ _)) w9.heap.size 1 rfl (blk_new _ _) (by simp [Value.oneCell']) (by have h := otherK_len xs ls k; have := HM8.out; omega) (by have := HEU.out.size; simp; omega) ?_; intro v8 w8 hO8 hg8 _; (have HLa := Lib.hid (HLU.out.ext (below_alloc' w9 (.cells #[.slice za n zc] 23 (0, 0))))); (have HL8 := Lib.hid (HLa.out.app (s := ⟨za, zc⟩) hg8 rfl HN.out hO8 (HTB.out.below (below_alloc' _ _)))); (have HE8 := Lib.hid (ext_grown (ext_trans HEU.out (below_alloc' _ _)) hg8 (own_ge HLU.out.own))); clear hO8 hg8 HLa))
          go_roundw
          case rel => exact ⟨k + 1, setH hq (otherK xs ls k).length ⟨za, zc⟩, by congr 1; omega, by omega, HE8.out, by rw [HOT.out]; exact HL8.out, HLK.out⟩
          case measure => simp [intOf]; omega
      · have hx0 : 0 < xn := by omega
        have hn0 : 0 < n := by omega
        have hx0' : (0 : Int) < (xn : Int) := by omega
        have hn0' : (0 : Int) < (n : Int) := by omega
        obtain ⟨p, hp⟩ : ∃ p, p = q % xn := ⟨_, rfl⟩
        have hpx : p < xn := by rw [hp]; exact Nat.mod_lt _ hx0
        have hpi : (q : Int) % (xn : Int) = (p : Int) := by rw [hp]; rfl
        have hxk := HX.out.below (ext_trans HE4.out (ext_trans HE.out HE9.out))
        obtain ⟨b2, off2, hxa, d0⟩ := hxk.1.cell p 0 (by rw [← HXN.out]; exact hpx) (by omega)
        rw [Nat.mul_one, Nat.add_zero] at d0
        have hyr := u16_in (hxk.2 p (by rw [← HXN.out]; exact hpx))
        obtain ⟨z, hz⟩ : ∃ z, z = intD xs p := ⟨_, rfl⟩
        have hd0 : kC .u16 xs p 0 = .int .u16 z := by rw [hz]; rfl
        rw [hd0] at d0
        rw [← hz] at hyr
        dsimp only at hxa
        subst hxa
        obtain ⟨r, hr⟩ : ∃ r, r = z.toNat % n := ⟨_, rfl⟩
        have hrn : r < n := by rw [hr]; exact Nat.mod_lt _ hn0
        have hri : z % (n : Int) = (r : Int) := by
          have : z = (z.toNat : Int) := by omega
          rw [this, hr]; rfl
        have g3 : (0 : Int) ≤ (p : Int) := by omega
        have g4 : (p : Int) < (xn : Int) := by omega
        have HTU : Hid (turnN xs q x = x.drop r ++ x.take r ++ [ntD x r]) := Lib.hid (by unfold turnN; rw [if_neg (by rw [← HXN.out, ← HN.out]; omega), ← HXN.out, ← hp, ← hz, ← HN.out, ← hr])
        have HRN := Lib.hid hrn
        have w3' : IntKind.i64.wrap z = z := IntWalk.i64_in _ (by omega)
        clear hp hz hd0 hxk hr
        go_upto_region 11 with (fail)
        rw [hri]
        clear d0
        obtain ⟨b3, off3, hza, c0, c1, c2, c3, c4, c5, c6, c7⟩ := nt_cells (l := x) (s := ⟨za, zc⟩) (i := r) (by have h := HZR.out; rw [HN.out] at h; exact h) (by rw [← HN.out]; exact hrn)
        dsimp only at hza
        subst hza
        obtain ⟨y, hy⟩ : ∃ y, y = ntD x r := ⟨_, rfl⟩
        rw [← hy] at c0 c1 c2 c3 c4 c5 c6 c7 HTU
        have hzle := HZR.out.le
        dsimp only at hzle
        have rq1 := run_notes_to (some ⟨b3, off3, none⟩) n zc r (by omega)
        have rq2 := run_notes_from (some ⟨b3, off3, none⟩) n zc r (by omega)
        have HTK : Hid (RowS w9 ⟨takeA (some ⟨b3, off3, none⟩) zc 8, zc⟩ 8 r (ntC (x.take r))) := Lib.hid (rowS_congr (row_take HZR.out (by omega)) fun i j hi _ => (ntC_take2 hi).symm)
        have HDR : Hid (RowS w9 ⟨dropA (some ⟨b3, off3, none⟩) zc r 8, zc - r⟩ 8 (n - r) (ntC (x.drop r))) := Lib.hid (rowS_congr (row_drop HZR.out (by omega)) fun i j _ _ => ntC_drop2.symm)
        have HNB : Hid (n ≤ 60) := Lib.hid HX60.out
        have C0 := Lib.hid c0; have C1 := Lib.hid c1; have C2 := Lib.hid c2; have C3 := Lib.hid c3; have C4 := Lib.hid c4; have C5 := Lib.hid c5; have C6 := Lib.hid c6; have C7 := Lib.hid c7
        have RQ1 := Lib.hid rq1; have RQ2 := Lib.hid rq2; have W1 := Lib.hid w1'; have HKM := Lib.hid hkm; have HQM := Lib.hid hqm; have HM8b := Lib.hid hm8
        clear c0 c1 c2 c3 c4 c5 c6 c7 rq1 rq2 w1' hkm hqm hk g1 g2 g3 g4 hrn hri hpi hpx w3' hx0 hn0 hx0' hn0' hA hzle hy hm8 hm8' w0' hyr hx60 hle hmx hxle hxmx
        refine meetV4 (C := fun (_be : Nat) (_v1 : Value) (bq : Nat) (v2 : Value) (u : World) => Ext2 w9 u ∧ OwnR u w9.heap.size 59 8 v2 (n - r + r) (ntC (x.drop r ++ x.take r)) ∧ u.heap[bq]? = some (Obj.cells #[.string y.by_, .int .i64 y.number, .int .i64 y.rev, .int .i64 y.kind, .int .i64 y.from_, .int .i64 y.until_, .int .i64 y.mlo, .int .i64 y.mhi] 59)) (P := Tryz.prog) (l := ?ll) (t := (.one 14 (.flt [15] .leaf))) (Q := ?qq) (S := Ext2 w9) (A := ?ax) (fun key => ?tr) ?ke
        case tr =>
          refine region_treeV (Ext2 w9) (.flt [1, 2, 3, 5, 6, 7, 9, 10, 11, 12] (.two 0 (.two 4 (.two 8 (.one 13 (.one 14 (.flt [15] .leaf))) 13 (.one 8 (.one 14 (.flt [15] .leaf)))) 13 (.one 4 (.one 8 (.one 14 (.flt [15] .leaf))))) 13 (.one 0 (.one 4 (.one 8 (.one 14 (.flt [15] .leaf))))))) (fun W h => h) (by kernel_rfl) (by kernel_rfl) (by intro c a d v w h; cases d <;> exact h) ?_
          intro u0 hu0
          have HU := Lib.hid hu0
          clear hu0
          have c0 := C0.out; have c1 := C1.out; have c2 := C2.out; have c3 := C3.out; have c4 := C4.out; have c5 := C5.out; have c6 := C6.out; have c7 := C7.out
          have rq1 := RQ1.out; have rq2 := RQ2.out
          have g3 : (0 : Int) ≤ (r : Int) := by omega
          have g4 : (r : Int) < (n : Int) := by have := HRN.out; omega
          have e3 : decide ((0 : Int) ≤ (r : Int)) = true := decide_eq_true g3
          have e4 : decide ((r : Int) < (n : Int)) = true := decide_eq_true g4
          refine wpV_flt ?_
          simp only [picks, List.drop_succ_cons, List.drop_zero]
          repeat ((with_reducible refine wpQS_step (fun K hK => ?_)); go_simp; ((with_reducible refine hK _ ?_); clear hK K))
          (with_reducible refine wpQS_nil ?_)
          clear c0 c1 c2 c3 c4 c5 c6 c7 rq1 rq2 g3 g4 e3 e4
          refine wpV_two ?_ ?_
          · skip
            simp only [picks, List.drop_succ_cons, List.drop_zero]
            go_wp2_with (fail)
            refine andV_name (fun u2 hu2 => ?_)
            obtain ⟨be, hbe⟩ : ∃ b, b = u0.heap.size := ⟨_, rfl⟩
            have NE : Hid (u2.heap[be]? = some (Obj.cells #[] 59 (0, 0))) := Lib.hid (by rw [hu2, hbe]; exact blk_new _ _)
            have hE2 : Ext2 u0 u2 := by rw [hu2]; exact below_alloc' _ _
            have LB : Hid (w9.heap.size ≤ be) := Lib.hid (by rw [hbe]; exact HU.out.size)
            skip
            have HX2 := Lib.hid (ext_trans HU.out hE2)
            rw [← hbe]
            clear hu2 hbe hE2
            refine ⟨HX2.out, ?_⟩
            refine wpV_two ?_ ?_
            · skip
              simp only [picks, List.drop_succ_cons, List.drop_zero]
              go_wp2_with (at_builtin; go_loud (refine app_sl_at elNote (c2 := ntC (x.drop r)) rfl _ _ rfl w9.heap.size rfl (own_empty (c := ntC []) NE.out LB.out) ⟨dropA (some ⟨b3, off3, none⟩) zc r 8, zc - r⟩ (n - r) rfl (HDR.out.below HX2.out) (ntC_one _) (by have := HNB.out; omega) HX2.out.size (fun i j hi _ => absurd hi (Nat.not_lt_zero i)) (fun i j hi _ => by rw [Nat.zero_add]) ?_; intro v1 u4 hO1 hg4 hp4; rw [Nat.zero_add] at hO1; (have HO1 := Lib.hid hO1); (have HZ := Lib.hid (ext_grown HX2.out hg4 (fun k hk => by cases hk; exact LB.out))); skip; clear hO1 hg4 hp4))
              refine ⟨HZ.out, ?_⟩
              refine wpV_two ?_ ?_
              · skip
                simp only [picks, List.drop_succ_cons, List.drop_zero]
                go_wp2_with (at_builtin; go_loud (refine app_sl_at elNote (c2 := ntC (x.drop r ++ x.take r)) rfl _ _ rfl w9.heap.size rfl HO1.out ⟨takeA (some ⟨b3, off3, none⟩) zc 8, zc⟩ r rfl (HTK.out.below HZ.out) (ntC_one _) (by have := HNB.out; have := HRN.out; omega) HZ.out.size (fun i j hi _ => ntC_left (by rw [List.length_drop, ← HN.out]; exact hi)) (fun i j hi _ => by have e : n - r + i = (x.drop r).length + i := (by rw [List.length_drop, ← HN.out]); rw [e]; exact ntC_right) ?_; intro v2 u5 hO2 hg5 _; (have HO2 := Lib.hid hO2); (have HT := Lib.hid (ext_grown HZ.out hg5 (own_ge HO1.out))); skip; clear hO2 hg5))
                refine ⟨HT.out, ?_⟩
                refine wpV_one ?_
                simp only [picks, List.drop_succ_cons, List.drop_zero]
                go_wp2_with (fail)
                refine andV_name (fun u3 hu3 => ?_)
                obtain ⟨bq, hbq⟩ : ∃ b, b = u5.heap.size := ⟨_, rfl⟩
                have NQ : Hid (u3.heap[bq]? = some (Obj.cells #[.string y.by_, .int .i64 y.number, .int .i64 y.rev, .int .i64 y.kind, .int .i64 y.from_, .int .i64 y.until_, .int .i64 y.mlo, .int .i64 y.mhi] 59)) := Lib.hid (by rw [hu3, hbq]; exact blk_new _ _)
                have hE3 : Ext2 u5 u3 := by rw [hu3]; exact below_alloc' _ _
                have HO3 := Lib.hid (HO2.out.below hE3)
                have HY := Lib.hid (ext_trans HT.out hE3)
                rw [← hbq]
                clear hu3 hbq hE3
                refine ⟨HY.out, ?_⟩
                exact key be v1 bq v2 _ ⟨HY.out, HO3.out, NQ.out⟩
              · skip
                simp only [picks, List.drop_succ_cons, List.drop_zero]
                go_wp2_with (fail)
                refine andV_name (fun u3 hu3 => ?_)
                obtain ⟨bq, hbq⟩ : ∃ b, b = u4.heap.size := ⟨_, rfl⟩
                have NQ : Hid (u3.heap[bq]? = some (Obj.cells #[.string y.by_, .int .i64 y.number, .int .i64 y.rev, .int .i64 y.kind, .int .i64 y.from_, .int .i64 y.until_, .int .i64 y.mlo, .int .i64 y.mhi] 59)) := Lib.hid (by rw [hu3, hbq]; exact blk_new _ _)
                have hE3 : Ext2 u4 u3 := by rw [hu3]; exact below_alloc' _ _
                have HO1b := Lib.hid (HO1.out.below hE3); have HNV : Hid (v1.ownBlock ≠ some bq) := Lib.hid (fun h => by have := own_blk_lt HO1.out h; omega)
                have HY := Lib.hid (ext_trans HZ.out hE3)
                rw [← hbq]
                clear hu3 hbq hE3
                refine ⟨HY.out, ?_⟩
                refine wpV_one ?_
                simp only [picks, List.drop_succ_cons, List.drop_zero]
                go_wp2_with (at_builtin; go_loud (refine app_sl_at elNote (c2 := ntC (x.drop r ++ x.take r)) rfl _ _ rfl w9.heap.size rfl HO1b.out ⟨takeA (some ⟨b3, off3, none⟩) zc 8, zc⟩ r rfl (HTK.out.below HY.out) (ntC_one _) (by have := HNB.out; have := HRN.out; omega) HY.out.size (fun i j hi _ => ntC_left (by rw [List.length_drop, ← HN.out]; exact hi)) (fun i j hi _ => by have e : n - r + i = (x.drop r).length + i := (by rw [List.length_drop, ← HN.out]); rw [e]; exact ntC_right) ?_; intro v2 u5 hO2 hg5 _; (have HO2 := Lib.hid hO2); (have HT := Lib.hid (ext_grown HY.out hg5 (own_ge HO1b.out))); have NQ2 := Lib.hid (blk_grown hg5 NQ.out (fun h => HNV.out h.symm)); clear hO2 hg5))
                refine ⟨HT.out, ?_⟩
                exact key be v1 bq v2 _ ⟨HT.out, HO2.out, NQ2.out⟩
            · skip
              simp only [picks, List.drop_succ_cons, List.drop_zero]
              go_wp2_with (fail)
              refine andV_name (fun u3 hu3 => ?_)
              obtain ⟨bq, hbq⟩ : ∃ b, b = u2.heap.size := ⟨_, rfl⟩
              have NQ : Hid (u3.heap[bq]? = some (Obj.cells #[.string y.by_, .int .i64 y.number, .int .i64 y.rev, .int .i64 y.kind, .int .i64 y.from_, .int .i64 y.until_, .int .i64 y.mlo, .int .i64 y.mhi] 59)) := Lib.hid (by rw [hu3, hbq]; exact blk_new _ _)
              have hE3 : Ext2 u2 u3 := by rw [hu3]; exact below_alloc' _ _
              have NE2 := Lib.hid (Ext2.blk hE3 NE.out); have HNE : Hid (bq ≠ be) := Lib.hid (by have := blk_lt NE.out; omega)
              have HY := Lib.hid (ext_trans HX2.out hE3)
              rw [← hbq]
              clear hu3 hbq hE3
              refine ⟨HY.out, ?_⟩
              refine wpV_one ?_
              simp only [picks, List.drop_succ_cons, List.drop_zero]
              go_wp2_with (at_builtin; go_loud (refine app_sl_at elNote (c2 := ntC (x.drop r)) rfl _ _ rfl w9.heap.size rfl (own_empty (c := ntC []) NE2.out LB.out) ⟨dropA (some ⟨b3, off3, none⟩) zc r 8, zc - r⟩ (n - r) rfl (HDR.out.below HY.out) (ntC_one _) (by have := HNB.out; omega) HY.out.size (fun i j hi _ => absurd hi (Nat.not_lt_zero i)) (fun i j hi _ => by rw [Nat.zero_add]) ?_; intro v1 u4 hO1 hg4 hp4; rw [Nat.zero_add] at hO1; (have HO1 := Lib.hid hO1); (have HZ := Lib.hid (ext_grown HY.out hg4 (fun k hk => by cases hk; exact LB.out))); have NQ2 := Lib.hid (blk_grown hg4 NQ.out (fun h => HNE.out (by cases h; rfl))); (have HNV : Hid (v1.ownBlock ≠ some bq) := Lib.hid (fun h => hp4.elim (fun h4 => HNE.out (Option.some.inj (show some bq = some be from h.symm.trans h4))) (fun h4 => by have hb := blk_lt NQ.out; have h5 : bq = u3.heap.size := Option.some.inj (h.symm.trans h4); omega))); clear hO1 hg4 hp4))
              refine ⟨HZ.out, ?_⟩
              refine wpV_one ?_
              simp only [picks, List.drop_succ_cons, List.drop_zero]
              go_wp2_with (at_builtin; go_loud (refine app_sl_at elNote (c2 := ntC (x.drop r ++ x.take r)) rfl _ _ rfl w9.heap.size rfl HO1.out ⟨takeA (some ⟨b3, off3, none⟩) zc 8, zc⟩ r rfl (HTK.out.below HZ.out) (ntC_one _) (by have := HNB.out; have := HRN.out; omega) HZ.out.size (fun i j hi _ => ntC_left (by rw [List.length_drop, ← HN.out]; exact hi)) (fun i j hi _ => by have e : n - r + i = (x.drop r).length + i := (by rw [List.length_drop, ← HN.out]); rw [e]; exact ntC_right) ?_; intro v2 u5 hO2 hg5 _; (have HO2 := Lib.hid hO2); (have HT := Lib.hid (ext_grown HZ.out hg5 (own_ge HO1.out))); have NQ3 := Lib.hid (blk_grown hg5 NQ2.out (fun h => HNV.out h.symm)); clear hO2 hg5))
              refine ⟨HT.out, ?_⟩
              exact key be v1 bq v2 _ ⟨HT.out, HO2.out, NQ3.out⟩
          · skip
            simp only [picks, List.drop_succ_cons, List.drop_zero]
            go_wp2_with (fail)
            refine andV_name (fun u3 hu3 => ?_)
            obtain ⟨bq, hbq⟩ : ∃ b, b = u0.heap.size := ⟨_, rfl⟩
            have NQ : Hid (u3.heap[bq]? = some (Obj.cells #[.string y.by_, .int .i64 y.number, .int .i64 y.rev, .int .i64 y.kind, .int .i64 y.from_, .int .i64 y.until_, .int .i64 y.mlo, .int .i64 y.mhi] 59)) := Lib.hid (by rw [hu3, hbq]; exact blk_new _ _)
            have hE3 : Ext2 u0 u3 := by rw [hu3]; exact below_alloc' _ _
            skip
            have HY := Lib.hid (ext_trans HU.out hE3)
            rw [← hbq]
            clear hu3 hbq hE3
            refine ⟨HY.out, ?_⟩
            refine wpV_one ?_
            simp only [picks, List.drop_succ_cons, List.drop_zero]
            go_wp2_with (fail)
            refine andV_name (fun u2 hu2 => ?_)
            obtain ⟨be, hbe⟩ : ∃ b, b = u3.heap.size := ⟨_, rfl⟩
            have NE : Hid (u2.heap[be]? = some (Obj.cells #[] 59 (0, 0))) := Lib.hid (by rw [hu2, hbe]; exact blk_new _ _)
            have hE2 : Ext2 u3 u2 := by rw [hu2]; exact below_alloc' _ _
            have LB : Hid (w9.heap.size ≤ be) := Lib.hid (by rw [hbe]; exact HY.out.size)
            have NQ0 := Lib.hid (Ext2.blk hE2 NQ.out); have HNE : Hid (bq ≠ be) := Lib.hid (by have := blk_lt NQ.out; omega)
            have HX2 := Lib.hid (ext_trans HY.out hE2)
            rw [← hbe]
            clear hu2 hbe hE2
            refine ⟨HX2.out, ?_⟩
            refine wpV_one ?_
            simp only [picks, List.drop_succ_cons, List.drop_zero]
            go_wp2_with (at_builtin; go_loud (refine app_sl_at elNote (c2 := ntC (x.drop r)) rfl _ _ rfl w9.heap.size rfl (own_empty (c := ntC []) NE.out LB.out) ⟨dropA (some ⟨b3, off3, none⟩) zc r 8, zc - r⟩ (n - r) rfl (HDR.out.below HX2.out) (ntC_one _) (by have := HNB.out; omega) HX2.out.size (fun i j hi _ => absurd hi (Nat.not_lt_zero i)) (fun i j hi _ => by rw [Nat.zero_add]) ?_; intro v1 u4 hO1 hg4 hp4; rw [Nat.zero_add] at hO1; (have HO1 := Lib.hid hO1); (have HZ := Lib.hid (ext_grown HX2.out hg4 (fun k hk => by cases hk; exact LB.out))); have NQ2 := Lib.hid (blk_grown hg4 NQ0.out (fun h => HNE.out (by cases h; rfl))); (have HNV : Hid (v1.ownBlock ≠ some bq) := Lib.hid (fun h => hp4.elim (fun h4 => HNE.out (Option.some.inj (show some bq = some be from h.symm.trans h4))) (fun h4 => by have hb := blk_lt NQ0.out; have h5 : bq = u2.heap.size := Option.some.inj (h.symm.trans h4); omega))); clear hO1 hg4 hp4))
            refine ⟨HZ.out, ?_⟩
            refine wpV_one ?_
            simp only [picks, List.drop_succ_cons, List.drop_zero]
            go_wp2_with (at_builtin; go_loud (refine app_sl_at elNote (c2 := ntC (x.drop r ++ x.take r)) rfl _ _ rfl w9.heap.size rfl HO1.out ⟨takeA (some ⟨b3, off3, none⟩) zc 8, zc⟩ r rfl (HTK.out.below HZ.out) (ntC_one _) (by have := HNB.out; have := HRN.out; omega) HZ.out.size (fun i j hi _ => ntC_left (by rw [List.length_drop, ← HN.out]; exact hi)) (fun i j hi _ => by have e : n - r + i = (x.drop r).length + i := (by rw [List.length_drop, ← HN.out]); rw [e]; exact ntC_right) ?_; intro v2 u5 hO2 hg5 _; (have HO2 := Lib.hid hO2); (have HT := Lib.hid (ext_grown HZ.out hg5 (own_ge HO1.out))); have NQ3 := Lib.hid (blk_grown hg5 NQ2.out (fun h => HNV.out h.symm)); clear hO2 hg5))
            refine ⟨HT.out, ?_⟩
            exact key be v1 bq v2 _ ⟨HT.out, HO2.out, NQ3.out⟩
        case ke =>
          rintro be v1 bq v2 u ⟨hU, hO2, hNQ⟩
          have HU := Lib.hid hU; have HO2 := Lib.hid hO2; have NQ := Lib.hid hNQ
          clear hU hO2 hNQ
          refine wpV_one ?_
          simp only [picks, List.drop_succ_cons, List.drop_zero]
          go_wp2_with (at_builtin; go_loud (refine app_one_at [.string y.by_, .int .i64 y.number, .int .i64 y.rev, .int .i64 y.kind, .int .i64 y.from_, .int .i64 y.until_, .int .i64 y.mlo, .int .i64 y.mhi] elNote rfl _ _ rfl w9.heap.size rfl HO2.out bq 1 rfl NQ.out (by simp [Value.oneCell']) (by have := HNB.out; have := HRN.out; omega) HU.out.size ?_; intro v3 u6 hO3 hg6 _; (have HU6 := Lib.hid (ext_grown HU.out hg6 (own_ge HO2.out))); (have hl9 : (x.drop r ++ x.take r).length = n - r + r := (by rw [List.length_append, List.length_drop, List.length_take, ← HN.out]; have := HRN.out; omega)); (have h7 := own_nt (w := u6) (base := w9.heap.size) (e := 59) (v := v3) (L := x.drop r ++ x.take r) (x := y) (by rw [hl9]; exact hO3)); rw [List.length_append, List.length_singleton, hl9, show n - r + r + 1 = n + 1 by have := HRN.out; omega] at h7; (obtain ⟨⟨ta, tc⟩, htv, hTR⟩ := OwnR.sl h7); subst htv; (have HT7 := Lib.hid h7); clear hO3 hg6 hl9 h7 hTR))
          refine ⟨HU6.out, ?_⟩
          refine wpV_flt ?_
          simp only [picks, List.drop_succ_cons, List.drop_zero]
          repeat ((with_reducible refine wpQS_step (fun K hK => ?_)); go_simp; ((with_reducible refine hK _ ?_); clear hK K))
          (with_reducible refine wpQS_nil ?_)
          refine wpV_leaf ?_
          have hnb := HNB.out
          have hkm := HKM.out; have hqm := HQM.out; have w1' := W1.out; have hm8 := HM8b.out
          have HTL : Hid (turnN xs q x = x.drop r ++ x.take r ++ [y]) := HTU
          have HTN : Hid (n + 1 = (turnN xs q x).length) := Lib.hid (by rw [HTL.out, List.length_append, List.length_append, List.length_drop, List.length_take, List.length_singleton, ← HN.out]; have := HRN.out; omega)
          have HEL := Lib.hid (ext_trans HE9.out HU6.out)
          by_cases h61 : 60 < n + 1
          · have h61' : (60 : Int) < (n : Int) + 1 := by omega
            have HA9 := Lib.hid (HA.out _ (ext_trans HE4.out (ext_trans HE.out HEL.out)))
            go_wp2_with (fail)
            (with_reducible refine HA9.out.mono ?_)
            rintro e w10 ⟨rfl, hE10⟩
            have HE10 := Lib.hid (ext_trans HE4.out (ext_trans HE.out (ext_trans HEL.out hE10)))
            clear hE10
            go_wp2_with (fail)
            go_ret
            exact ⟨rfl, HE10.out⟩
          · have h61' : ¬ (60 : Int) < (n : Int) + 1 := by omega
            have HLU := Lib.hid (HLI.out.ext HEL.out)
            have HEU := Lib.hid (ext_trans HE.out HEL.out)
            have HTB : Hid (OwnR u6 w4.heap.size 59 8 (.slice ta (n + 1) tc) (n + 1) (ntC (turnN xs q x))) := Lib.hid (by rw [HTL.out]; exact OwnR.base HT7.out (Nat.le_trans HE.out.size HE9.out.size))
            have HLK : Hid (∀ j, j < k + 1 → (turnN xs (ls.length - 1 - j) (ls.getD (ls.length - 1 - j) [])).length ≤ 60) := Lib.hid fun j hj => by
              rcases Nat.lt_or_ge j k with h | h
              · exact HLEN.out j h
              · obtain rfl : j = k := by omega
                rw [show ls.length - 1 - j = q by rw [HQ0.out, HM.out], ← HXX.out, ← HTN.out]; omega
            have hq0 := HQ0.out
            go_wp2_with (at_builtin; go_loud (refine app_one_at [.slice ta (n + 1) tc] elNts rfl _ _ rfl w4.heap.size rfl (HLU.out.own.below (below_alloc' _ _)) u6.heap.size 1 rfl (blk_new _ _) (by simp [Value.oneCell']) (by have h := otherK_len xs ls k; have := HM8.out; omega) (by have := HEU.out.size; simp; omega) ?_; intro v8 w8 hO8 hg8 _; (have HLa := Lib.hid (HLU.out.ext (below_alloc' u6 (.cells #[.slice ta (n + 1) tc] 23 (0, 0))))); (have HL8 := Lib.hid (HLa.out.app (s := ⟨ta, tc⟩) hg8 rfl HTN.out hO8 (HTB.out.below (below_alloc' _ _)))); (have HE8 := Lib.hid (ext_grown (ext_trans HEU.out (below_alloc' _ _)) hg8 (own_ge HLU.out.own))); clear hO8 hg8 HLa))
            go_roundw
            case rel => exact ⟨k + 1, setH hq (otherK xs ls k).length ⟨ta, tc⟩, by congr 1; omega, by omega, HE8.out, by rw [HOT.out]; exact HL8.out, HLK.out⟩
            case measure => simp [intOf]; omega
    · obtain rfl : m = k := by omega
      have hneg : ¬ (0 : Int) ≤ iv := by omega
      obtain ⟨L, hLd⟩ : ∃ L, L = otherK xs ls m := ⟨_, rfl⟩
      have hlm : L.length = m := by rw [hLd, otherK_len]
      have hmem : ∀ z, z ∈ L.flatten ↔ z ∈ ls.flatten := fun z => by rw [hLd, HM.out]; exact other_all
      have heach : ∀ l ∈ L, l.length ≤ 60 := by rw [hLd]; exact otherK_each HLEN.out
      have hms : mergeV L = mergeV ls := merge_same (by rw [← HV.out]) (by omega) heach hmem
      have hma : L.length + 1 ≤ 8 → mergeV (A :: L) = mergeV ls := fun h8 => by
        have h := merge_again (ls := ls) (ms := L) (by rw [← HV.out]) h8 heach hmem
        rw [← HV.out] at h ⊢; exact h
      rw [← HV.out] at hms hma
      rw [← hLd] at HLI
      have hszs : ∀ l ∈ L, ∀ y ∈ l, y.by_.size ≤ maxLen := fun l hl y hy => by
        obtain ⟨l', hl', hy'⟩ := List.mem_flatten.1 ((hmem y).1 (List.mem_flatten.2 ⟨l, hl, hy⟩))
        exact HL.out.sizes l' hl' y hy'
      obtain ⟨⟨oa, oc⟩, hov, hOR⟩ := OwnR.sl HLI.out.own
      dsimp only at hov
      subst hov
      have hnl : NListsS wr ⟨oa, oc⟩ hq L := ⟨hOR, fun i hi => own_row (HLI.out.each i hi), hszs⟩
      have hH2 := HMG.out L ⟨oa, oc⟩ hq wr (ext_trans HE4.out HE.out) hnl
      unfold MrgOut at hH2
      rw [hms, hlm, ← HAN.out] at hH2
      dsimp only at hH2
      have H2 := Lib.hid hH2; have HNL := Lib.hid hnl; have HMA := Lib.hid hma; have HLM := Lib.hid hlm; have HSZS := Lib.hid hszs
      have HEw := Lib.hid (ext_trans HE4.out HE.out)
      rw [hlm]
      clear hLd hlm hmem heach hms hma hszs hOR hnl hH2 hiv
      go_wp2_with (fail)
      (with_reducible refine H2.out.mono ?_)
      rintro e w5 ⟨⟨⟨s2a, s2c⟩, rfl, hN2⟩, hE5⟩
      have HE5 := Lib.hid (ext_trans HEw.out hE5)
      have HNA := Lib.hid (RowS.below HN1.out (ext_trans HE.out hE5))
      have HC : Hid (Calls Tryz.prog 12 #[.slice s1a an s1c, .slice s2a an s2c] w5 fun e w' => e = .returned (.bool true) ∧ Below w5.heap.size w5 w') := Lib.hid (by rw [HAN.out]; have h := HSM.out ⟨s1a, s1c⟩ ⟨s2a, s2c⟩ A A w5 HNA.out hN2; rw [decide_eq_true rfl] at h; exact h)
      have HNL5 := Lib.hid (HNL.out.below hE5)
      clear hE5 hN2 H2
      go_wp2_with (fail)
      (with_reducible refine HC.out.mono ?_)
      rintro e w6 ⟨rfl, hE6⟩
      have HE6 := Lib.hid (ext_trans HE5.out hE6); have HNL6 := Lib.hid (HNL5.out.below hE6); have HNA6 := Lib.hid (RowS.below HNA.out hE6)
      clear hE6 HC HNL5
      by_cases h8 : 8 ≤ m
      · have h8' : (8 : Int) ≤ (m : Int) := by omega
        have HA9 := Lib.hid (HA.out _ HE6.out)
        go_wp2_with (fail)
        (with_reducible refine HA9.out.mono ?_)
        rintro e w10 ⟨rfl, hE10⟩
        have HE10 := Lib.hid (ext_trans HE6.out hE10)
        clear hE10
        go_wp2_with (fail)
        go_ret
        exact ⟨rfl, HE10.out⟩
      · have h8' : ¬ (8 : Int) ≤ (m : Int) := by omega
        have hma := HMA.out (by rw [HLM.out]; omega)
        have HMA2 := Lib.hid hma
        have HM7 : Hid (m ≤ 8) := Lib.hid (by omega)
        have HOR : Hid (RowS w6 ⟨oa, oc⟩ 1 m (nlC hq L)) := Lib.hid (by rw [← HLM.out]; exact HNL6.out.row)
        have hasz : ∀ y ∈ A, y.by_.size ≤ maxLen := fun y hy => by
          have hme := (merge_ok (ls := ls) (by rw [← HV.out])).2
          rw [← HV.out] at hme
          have hA : A = standV ls.flatten := congrArg Prod.fst hme
          rw [hA] at hy
          obtain ⟨l', hl', hy'⟩ := List.mem_flatten.1 (standV_mem.1 hy).1
          exact HL.out.sizes l' hl' y hy'
        have HASZ := Lib.hid hasz
        clear hma hasz h8
        go_wp2_with (at_builtin; go_loud (refine app_sl_at elNts (c2 := nlC (consH ⟨s1a, s1c⟩ hq) (A :: L)) rfl _ _ rfl w6.heap.size rfl (own_one (c := nlC (consH ⟨s1a, s1c⟩ hq) (A :: L)) (blk_new _ _) (Nat.le_refl _) (by rw [HAN.out]; rfl)) ⟨oa, oc⟩ m rfl (HOR.out.below (below_alloc' _ _)) (fun _ _ => rfl) (by have := HM7.out; omega) (by simp) (fun i j hi _ => rfl) (fun i j hi _ => by rw [Nat.add_comm 1 i]; rfl) ?_; intro v7 w7 hO7 hg7 _; (have HE7 : Hid (Ext2 w6 w7) := Lib.hid (ext_grown (below_alloc' _ _) hg7 (fun k hk => by cases hk; exact Nat.le_refl _))); (obtain ⟨⟨ca, cc⟩, hcv, hCR⟩ := OwnR.sl hO7); (obtain ⟨cn, hcn⟩ : ∃ n, n = 1 + m := ⟨_, rfl⟩); rw [← hcn] at hcv hCR; subst hcv; (have HCR := Lib.hid hCR); (have HCN : Hid (cn = (A :: L).length) := Lib.hid (by rw [hcn, List.length_cons, HLM.out]; omega)); clear hO7 hg7 hcn hCR; refine (fun (h : Hid _) => h.out) ?_))
        refine Lib.hid ?_
        have hnl : NListsS w7 ⟨ca, cc⟩ (consH ⟨s1a, s1c⟩ hq) (A :: L) := ⟨by have h := HCR.out; rw [HCN.out] at h; exact h, fun i hi => by
          cases i with
          | zero => exact RowS.below HNA6.out HE7.out
          | succ i => exact RowS.below (HNL6.out.each i (by simpa using hi)) HE7.out, fun l hl => by
          rcases List.mem_cons.1 hl with rfl | hl
          · exact HASZ.out
          · exact HSZS.out l hl⟩
        have hH3 := HMG.out (A :: L) ⟨ca, cc⟩ (consH ⟨s1a, s1c⟩ hq) w7 (ext_trans HE6.out HE7.out) hnl
        unfold MrgOut at hH3
        rw [HMA2.out, ← HCN.out, ← HAN.out] at hH3
        dsimp only at hH3
        have H3 := Lib.hid hH3
        have HE67 := Lib.hid (ext_trans HE6.out HE7.out); have HNA7 := Lib.hid (RowS.below HNA6.out HE7.out)
        clear hnl hH3
        go_wp2_with (fail)
        (with_reducible refine H3.out.mono ?_)
        rintro e w8 ⟨⟨⟨s3a, s3c⟩, rfl, hN3⟩, hE8⟩
        have HE8 := Lib.hid (ext_trans HE67.out hE8)
        have HC : Hid (Calls Tryz.prog 12 #[.slice s1a an s1c, .slice s3a an s3c] w8 fun e w' => e = .returned (.bool true) ∧ Below w8.heap.size w8 w') := Lib.hid (by rw [HAN.out]; have h := HSM.out ⟨s1a, s1c⟩ ⟨s3a, s3c⟩ A A w8 (RowS.below HNA7.out hE8) hN3; rw [decide_eq_true rfl] at h; exact h)
        clear hE8 hN3 H3
        go_wp2_with (fail)
        (with_reducible refine HC.out.mono ?_)
        rintro e w9 ⟨rfl, hE9⟩
        have HE9 := Lib.hid (ext_trans HE8.out hE9)
        have HA9 := Lib.hid (HA.out _ HE9.out)
        clear hE9 HC
        go_wp2_with (fail)
        (with_reducible refine HA9.out.mono ?_)
        rintro e w10 ⟨rfl, hE10⟩
        have HE10 := Lib.hid (ext_trans HE9.out hE10)
        clear hE10
        go_wp2_with (fail)
        go_ret
        exact ⟨rfl, HE10.out⟩
end Go.Proofs.YtojomdojblgegaaGreatDoor
