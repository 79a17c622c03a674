/-
  ref.common, told, picture.
-/
import Derived.Test.YtojomdojblgegaaGreatDoorBTld
import Derived.Test.YtojomdojblgegaaGreatDoorBRA
namespace Go.Proofs.YtojomdojblgegaaGreatDoor
open Go.RowKit D
set_option linter.unusedVariables false
set_option linter.unusedSimpArgs false
attribute [local go_sem high] run_minI run_maxI
attribute [local go_sem] upon2 cls_cell cls_frozen forall_const exists_eq_left'
attribute [local go_sem] FirstUpon atBlk_cell
set_option maxRecDepth 100000 in
set_option maxHeartbeats 2000000 in
theorem commonR_any (a b : Span) (w : World) : Calls Tryz.prog 86 #[.agg #[.int .i64 a.lo, .int .i64 a.hi], .agg #[.int .i64 b.lo, .int .i64 b.hi]] w fun e w' => e = .returned (.agg #[.int .i64 (comS a b).lo, .int .i64 (comS a b).hi]) ∧ Below w.heap.size w w' := by
  obtain ⟨L, hL⟩ : ∃ L, L = max a.lo b.lo := ⟨_, rfl⟩
  obtain ⟨H, hH⟩ : ∃ H, H = min a.hi b.hi := ⟨_, rfl⟩
  have e : comS a b = ⟨L, H⟩ := by rw [hL, hH]; rfl
  rw [e]
  dsimp only
  clear e
  go_enter Tryz.func86, Tryz.ntmps86
  go_upto_region 1 with (fail)
  refine wp_name ?_
  intro w3 hw3
  obtain ⟨n2, hn2⟩ : ∃ n, n = w.heap.size := ⟨_, rfl⟩
  obtain ⟨n3, hn3⟩ : ∃ n, n = n2 + 1 := ⟨_, rfl⟩
  obtain ⟨n4, hn4⟩ : ∃ n, n = n3 + 1 := ⟨_, rfl⟩
  have x2 : w3.heap[n2]? = some (Obj.cells #[.int .i64 a.lo, .int .i64 a.hi] 31) := by rw [hw3, hn2]; exact blk_alloc (blk_alloc (blk_new _ _) _) _
  have x3 : w3.heap[n3]? = some (Obj.cells #[.int .i64 b.lo, .int .i64 b.hi] 31) := by rw [hw3, hn3, hn2]; exact blk_alloc (blk_new' _ _ (by simp)) _
  have x4 : w3.heap[n4]? = some (Obj.cells #[.int .i64 (0), .int .i64 (0)] 31) := by rw [hw3, hn4, hn3, hn2]; exact blk_new' _ _ (by simp)
  have hE3 : Ext2 w w3 := by rw [hw3]; exact ext_trans (ext_trans (below_alloc' _ _) (below_alloc' _ _)) (below_alloc' _ _)
  have hl4 : w.heap.size ≤ n4 := by omega
  rw [← hn2, ← hn3, ← hn4]
  have HE3 := Lib.hid hE3; have HL := Lib.hid hL; have HH := Lib.hid hH; have HL4 := Lib.hid hl4
  clear hw3 hn2 hn3 hn4 hE3 hL hH hl4
  have q2c := cell_blk x2
  have q2f := frz_blk x2
  have q3c := cell_blk x3
  have q3f := frz_blk x3
  have q4c := cell_blk x4
  have q4f := frz_blk x4
  have X4 := Lib.hid x4
  clear x2 x3 x4
  go_wp2_with (fail)
  rw [← HL.out, ← HH.out]
  have r1 : ((w3.setCell ⟨n4, 0, none⟩ (.int .i64 L)).setCell ⟨n4, 1, none⟩ (.int .i64 H)).heap[n4]? = some (Obj.cells #[.int .i64 (L), .int .i64 (H)] 31) := Eq.trans (blk_set (blk_set X4.out _ _) _ _) rfl
  refine bodyPost_ret (v := .agg #[.int .i64 L, .int .i64 H]) ?_ rfl ⟨rfl, below_set (below_set HE3.out HL4.out) HL4.out⟩
  have zc := cell_blk r1
  have zf := frz_blk r1
  simp [results, Tryz.results86, go_sem, zc]
theorem pic_mono {l : List Note} {a : Nat} : ∀ {b : Nat}, a ≤ b → picB l a ≤ picB l b ∧ picB l b - picB l a ≤ (b : Int) - a
  | 0, h => by obtain rfl : a = 0 := by omega
               omega
  | b + 1, h => by
    rcases Nat.lt_or_ge a (b + 1) with h1 | h1
    · have := pic_mono (l := l) (a := a) (b := b) (by omega)
      rw [picB]; split <;> omega
    · obtain rfl : a = b + 1 := by omega
      omega
set_option maxRecDepth 100000 in
set_option maxHeartbeats 2000000 in
theorem pictureR_any {l : List Note} {s : Sl} {a b : Nat} {w : World} (hl : NotesS w s l) (hab : a ≤ b) (hb : b ≤ 1000000) : Calls Tryz.prog 89 #[.slice s.a l.length s.cap, .int .i64 (a : Int), .int .i64 ((b : Int) - 1)] w fun e w' => e = .returned (.int .i64 (picB l b - picB l a)) ∧ Below w.heap.size w w' := by
  have HAB := Lib.hid fun (W : World) (hW : Ext2 w W) (f : Int) => aboutR_any (kind := 3) (f := f) (RowS.below hl hW)
  obtain ⟨sa, sc⟩ := s
  obtain ⟨n, hn⟩ : ∃ n, n = l.length := ⟨_, rfl⟩
  rw [← hn] at HAB ⊢
  dsimp only at HAB
  clear hl hn
  have hE0 : Ext2 w w := Below.refl _ _
  have HE0 := Lib.hid hE0
  clear hE0
  go_enter Tryz.func89, Tryz.ntmps89
  go_wp2_with (fail)
  go_loopw [7, 8] (fun v i wr => ∃ k : Nat, i = .int .i64 k ∧ v = .int .i64 (picB l k - picB l a) ∧ a ≤ k ∧ k ≤ b ∧ Ext2 w wr) (fun _ i _ => b - (intOf i).toNat)
  case atStart => exact ⟨a, rfl, by rw [Int.sub_self], Nat.le_refl _, hab, HE0.out⟩
  case round =>
    clear HE0
    obtain ⟨k, rfl, rfl, hak, hk, hE⟩ := hrel
    have HE := Lib.hid hE
    clear hE
    by_cases hlt : k < b
    · go_light
      have h1 : (k : Int) ≤ (b : Int) - 1 := by omega
      have w1' : IntKind.i64.wrap ((k : Int) + 1) = (k : Int) + 1 := IntWalk.i64_in _ (by omega)
      have hp := pic_mono (l := l) hak
      obtain ⟨P, hP⟩ : ∃ P, P = picB l k - picB l a := ⟨_, rfl⟩
      rw [← hP]
      have hP1 : 0 ≤ P ∧ P ≤ 1000000 := by omega
      have w2' : IntKind.i64.wrap (P + 1) = P + 1 := IntWalk.i64_in _ (by omega)
      have HA := Lib.hid fun W hW => HAB.out W hW (k : Int)
      obtain ⟨L, hL⟩ : ∃ L, L = about l 3 (k : Int) := ⟨_, rfl⟩
      rw [← hL] at HA
      have HK : Hid (picB l (k + 1) = if L then picB l k else picB l k + 1) := Lib.hid (by rw [picB, ← hL])
      have HP := Lib.hid hP
      clear hp hP hP1 hL
      go_wp2_with (fail)
      (with_reducible refine (HA.out _ HE.out).mono ?_)
      rintro e w5 ⟨rfl, hE5⟩
      have HE5 := Lib.hid (ext_trans HE.out hE5)
      clear hE5 HA
      cases L with
      | true =>
        go_wp2_with (fail)
        go_roundw
        case rel => exact ⟨k + 1, by go_num, by rw [HK.out, HP.out]; rfl, by omega, by omega, HE5.out⟩
        case measure => simp [intOf]; omega
      | false =>
        have HQ : Hid (P + 1 = picB l (k + 1) - picB l a) := Lib.hid (by have := HK.out; have := HP.out; simp only [Bool.false_eq_true, if_false] at *; omega)
        go_wp2_with (fail)
        go_roundw
        case rel => exact ⟨k + 1, by go_num, by rw [← HQ.out], by omega, by omega, HE5.out⟩
        case measure => simp [intOf]; omega
    · obtain rfl : b = k := by omega
      have h1 : ¬ (b : Int) ≤ (b : Int) - 1 := by omega
      obtain ⟨P, hP⟩ : ∃ P, P = picB l b - picB l a := ⟨_, rfl⟩
      rw [← hP]
      have HP := Lib.hid hP
      clear hP
      go_wp2_with (fail)
      go_ret
      exact ⟨by rw [← HP.out]; rfl, HE.out⟩
/-- The index of the first note told. -/
def FstI (N : List Note) (y : Option Note) (j : Int) : Prop := (y = none ∧ j = -1) ∨ ∃ z q, y = some z ∧ q < N.length ∧ ntD N q = z ∧ j = (q : Int)
set_option maxRecDepth 100000 in
set_option maxHeartbeats 8000000 in
theorem toldR_any {N : List Note} {ns : Sl} {f : Int} {w : World} (hT : NotesS w ns N) (hn : N.length ≤ 1000000) :
    Calls Tryz.prog 121 #[.slice ns.a N.length ns.cap, .int .i64 f] w fun e w' => (∃ s' : Sl, e = .returned (.tuple #[.agg #[.int .i64 (toldV N f).is.lo, .int .i64 (toldV N f).is.hi], .slice s'.a (toldV N f).struck.length s'.cap]) ∧ OwnR w' w.heap.size 76 4 (.slice s'.a (toldV N f).struck.length s'.cap) (toldV N f).struck.length (skC (toldV N f).struck) ∧ (toldV N f).struck.length ≤ N.length) ∧ Below w.heap.size w w' := by
  have hle := hT.le; have hmx := hT.max
  have HNT := Lib.hid hT
  obtain ⟨V, hV⟩ : ∃ V, V = toldV N f := ⟨_, rfl⟩
  rw [← hV]
  have HV : Hid (V = (N.take N.length).foldl (toldS f) tld0) := Lib.hid (by rw [hV, List.take_length]; rfl)
  obtain ⟨m, hm⟩ : ∃ m, m = N.length := ⟨_, rfl⟩
  rw [← hm] at hle hn HV ⊢
  have HM := Lib.hid hm
  obtain ⟨na, nc⟩ := ns
  dsimp only at hle hmx
  clear hT hV hm
  go_enter Tryz.func121, Tryz.ntmps121
  go_upto_region 2 with (fail)
  refine wp_name ?_
  intro w3 hw3
  obtain ⟨n4, hn4⟩ : ∃ n, n = w.heap.size := ⟨_, rfl⟩
  obtain ⟨n6, hn6⟩ : ∃ n, n = n4 + 1 := ⟨_, rfl⟩
  have x4 : w3.heap[n4]? = some (Obj.cells #[.int .i64 (0), .int .i64 (0)] 31) := by rw [hw3, hn4]; first | exact blk_alloc (blk_new _ _) _ | exact blk_set_ne (blk_set_ne (blk_alloc (blk_new _ _) _) (by simp)) (by simp)
  have x6 : w3.heap[n6]? = some (Obj.cells #[.int .i64 (0), .int .i64 (400000)] 31) := by rw [hw3, hn6, hn4]; first | exact blk_new' _ _ (by simp) | exact Eq.trans (blk_set (blk_set (blk_new' _ _ (by simp)) _ _) _ _) rfl
  have hE3 : Ext2 w w3 := by rw [hw3]; first | exact ext_trans (below_alloc' _ _) (below_alloc' _ _) | exact below_set (below_set (ext_trans (below_alloc' _ _) (below_alloc' _ _)) (by simp)) (by simp)
  have hs3 : n6 + 1 ≤ w3.heap.size := blk_lt x6
  have lw : w.heap.size ≤ n4 := by omega
  have lw6 : w.heap.size ≤ n6 := by omega
  have l46 : n4 < n6 := by omega
  rw [← hn4]
  try rw [← hn6]
  have HE3 := Lib.hid hE3; have X4 := Lib.hid x4; have X6 := Lib.hid x6; have HS3 := Lib.hid hs3
  clear hw3 hn4 hn6 hE3 x4 x6 hs3
  go_wp2_with (fail)
  go_loopw [7, 8, 9] (fun fv sv iv wr => ∃ (k : Nat) (td : D.Told) (j : Int), iv = .int .i64 k ∧ fv = .int .i64 j ∧ k ≤ m ∧ td = (N.take k).foldl (toldS f) tld0 ∧ Ext2 w wr ∧ n6 + 1 ≤ wr.heap.size ∧ FstI N td.first j ∧ wr.heap[n4]? = some (Obj.cells #[.int .i64 (0), .int .i64 (0)] 31) ∧ wr.heap[n6]? = some (Obj.cells #[.int .i64 td.is.lo, .int .i64 td.is.hi] 31) ∧ td.struck.length ≤ k ∧ OwnR wr (n6 + 1) 76 4 sv td.struck.length (skC td.struck)) (fun _ _ i _ => m - (intOf i).toNat)
  case atStart => exact ⟨0, tld0, -1, rfl, rfl, by omega, rfl, HE3.out, HS3.out, .inl ⟨rfl, rfl⟩, X4.out, X6.out, Nat.le_refl _, own_nil _ _ _ _ _⟩
  case round =>
    clear HE3 X4 X6 HS3
    obtain ⟨k, td, j, rfl, rfl, hk, htd, hE, hsz, hfs, x4, x6, hsk, hO⟩ := hrel
    have HTD := Lib.hid htd; have HE := Lib.hid hE; have HSZ := Lib.hid hsz; have HFS := Lib.hid hfs; have X4 := Lib.hid x4; have X6 := Lib.hid x6; have HSK := Lib.hid hsk; have HO := Lib.hid hO
    clear htd hE hsz hfs x4 x6 hsk hO
    by_cases hlt : k < m
    · go_light
      have hkl : k < N.length := by rw [← HM.out]; exact hlt
      obtain ⟨b, off, hna, c0, c1, c2, c3, c4, c5, c6, c7⟩ := nt_cells (HNT.out.below HE.out) (i := k) hkl
      dsimp only at hna
      subst hna
      have htk := told_take (f := f) hkl
      rw [← HTD.out] at htk
      obtain ⟨x, hx⟩ : ∃ x, x = ntD N k := ⟨_, rfl⟩
      rw [← hx] at c0 c1 c2 c3 c4 c5 c6 c7 htk
      have HX := Lib.hid hx; have HTK := Lib.hid htk
      have h0 : (0 : Int) ≤ (k : Int) := by omega
      have h1 : (k : Int) < (m : Int) := by omega
      have h2 : decide ((0 : Int) ≤ (k : Int)) = true := decide_eq_true h0
      have h3 : decide ((k : Int) < (m : Int)) = true := decide_eq_true h1
      have w2' : IntKind.i64.wrap ((k : Int) + 1) = (k : Int) + 1 := IntWalk.i64_in _ (by omega)
      clear hx htk hkl
      by_cases g1 : x.kind = 1
      case neg =>
        have b1 : (x.kind != 1) = true := by simpa using g1
        have HF : Hid (toldS f td x = td) := Lib.hid (by unfold toldS; rw [if_pos (.inl g1)])
        clear g1
        go_wp2_with (fail)
        go_roundw
        case rel => exact ⟨k + 1, td, j, by go_num, rfl, by omega, by rw [HTK.out, HF.out], HE.out, HSZ.out, HFS.out, X4.out, X6.out, by have := HSK.out; omega, HO.out⟩
        case measure => simp [intOf]; omega
      have b1 : (x.kind != 1) = false := by simpa using g1
      by_cases g2 : x.from_ = f
      case neg =>
        have b2 : (x.from_ != f) = true := by simpa using g2
        have HF : Hid (toldS f td x = td) := Lib.hid (by unfold toldS; rw [if_pos (.inr g2)])
        clear g1 g2
        go_wp2_with (fail)
        go_roundw
        case rel => exact ⟨k + 1, td, j, by go_num, rfl, by omega, by rw [HTK.out, HF.out], HE.out, HSZ.out, HFS.out, X4.out, X6.out, by have := HSK.out; omega, HO.out⟩
        case measure => simp [intOf]; omega
      have b2 : (x.from_ != f) = false := by simpa using g2
      have HG := Lib.hid (show ¬ (x.kind ≠ 1 ∨ x.from_ ≠ f) by omega)
      clear g1 g2
      have x4 := X4.out; have x6 := X6.out
      rcases HFS.out with ⟨hno, rfl⟩ | ⟨y, q, hy, hj, hjy, rfl⟩
      · have HF : Hid (toldS f td x = ⟨some x, ⟨x.mlo, x.mhi⟩, td.struck⟩) := Lib.hid (by unfold toldS; rw [if_neg HG.out, hno])
        clear hno HFS
        have q6c := cell_blk x6
        have q6f := frz_blk x6
        go_upto_region 9 with (fail)
        refine region_ev [] [0, 1, 2, 3, 4, 5, 6] [] [7] (by kernel_rfl) (by kernel_rfl) (by intro c a d v w h; cases d <;> exact h) ?_
        simp only [picks, List.drop_succ_cons, List.drop_zero]
        repeat (refine wpQ0_step (fun K hK => ?_); go_simp; (refine hK _ ?_; clear hK K))
        refine wpQ0_nil ?_
        repeat ((with_reducible refine wpQ2_step (fun K hK => ?_)); go_simp; first | ((with_reducible refine hK _ ?_); clear hK K) | (apply Exists.intro; refine ⟨fun x => ?_, hK _ ?_⟩; (fail); clear hK K) | (refine ite_undef (fun h => (by have h_ : (none : Option Bool) = some _ := h; cases h_)) ?_; (with_reducible refine hK _ ?_); clear hK K))
        (with_reducible refine wpQ2_nil ?_)
        refine Events.none_ fun w5 hE5 => ?_
        simp only [picks, List.drop_succ_cons, List.drop_zero]
        have x4 := Ext2.blk hE5 x4; have x6 := Ext2.blk hE5 x6
        have HE5 := Lib.hid (ext_trans HE.out hE5)
        have HO5 := Lib.hid (HO.out.below hE5)
        have HS5 : Hid (n6 + 1 ≤ w5.heap.size) := Lib.hid (Nat.le_trans HSZ.out hE5.size)
        clear q6c q6f c0 c1 c2 c3 c4 c5 c6 c7 hE5
        have q6c := cell_blk x6
        have q6f := frz_blk x6
        go_wp2_with (fail)
        go_roundw
        case rel =>
          refine ⟨k + 1, ⟨some x, ⟨x.mlo, x.mhi⟩, td.struck⟩, (k : Int), by go_num, rfl, by omega, by rw [HTK.out, HF.out], below_set (below_set HE5.out lw6) lw6, by simp only [World.size_setCell]; exact HS5.out, .inr ⟨x, k, rfl, by rw [← HM.out]; exact hlt, HX.out.symm, rfl⟩, blk_set_ne (blk_set_ne x4 (by omega)) (by omega), Eq.trans (blk_set (blk_set x6 _ _) _ _) rfl, by have := HSK.out; dsimp only; omega, ?_⟩
          exact HO5.out.above (by repeat' (first | (with_reducible assumption) | (with_reducible exact Above.refl _ _) | (with_reducible refine Above.set ?_ (by omega)) | (with_reducible refine Above.alloc ?_ _) | (with_reducible refine Above.ext ?_ (by assumption))))
        case measure => simp [intOf]; omega
      · have hcf : toldS f td x = if (comS td.is ⟨x.mlo, x.mhi⟩).hi < (comS td.is ⟨x.mlo, x.mhi⟩).lo then ⟨td.first, td.is, td.struck ++ [⟨x.by_, x.number, y.by_, y.number⟩]⟩ else ⟨td.first, comS td.is ⟨x.mlo, x.mhi⟩, td.struck⟩ := by unfold toldS; rw [if_neg HG.out, hy]
        obtain ⟨bb, offb, hna2, d0, d1, -⟩ := nt_cells (HNT.out.below HE.out) (i := q) hj
        cases hna2
        rw [hjy] at d0 d1
        obtain ⟨C, hC⟩ : ∃ C, C = comS td.is ⟨x.mlo, x.mhi⟩ := ⟨_, rfl⟩
        rw [← hC] at hcf
        have HCM : Hid (∀ W, Calls Tryz.prog 86 #[.agg #[.int .i64 td.is.lo, .int .i64 td.is.hi], .agg #[.int .i64 x.mlo, .int .i64 x.mhi]] W fun e w' => e = .returned (.agg #[.int .i64 C.lo, .int .i64 C.hi]) ∧ Below W.heap.size W w') := Lib.hid fun W => by rw [hC]; exact commonR_any _ ⟨x.mlo, x.mhi⟩ W
        have g0 : ¬ (q : Int) < 0 := by omega
        have g3 : (0 : Int) ≤ (q : Int) := by omega
        have g4 : (q : Int) < (m : Int) := by rw [HM.out]; omega
        have g5 : decide ((0 : Int) ≤ (q : Int)) = true := decide_eq_true g3
        have g6 : decide ((q : Int) < (m : Int)) = true := decide_eq_true g4
        have HCF := Lib.hid hcf; have HY := Lib.hid hy; have HJ := Lib.hid hj; have HJY := Lib.hid hjy
        clear hcf hC hy hj hjy HFS HG
        have q6c := cell_blk x6
        have q6f := frz_blk x6
        go_upto_region 10 with (fail)
        refine region_ev [] [0, 1, 2, 3, 4, 5, 6] [(7, 10, some 8)] [] (by kernel_rfl) (by kernel_rfl) (by intro c a d v w h; cases d <;> exact h) ?_
        simp only [picks, List.drop_succ_cons, List.drop_zero]
        repeat (refine wpQ0_step (fun K hK => ?_); go_simp; (refine hK _ ?_; clear hK K))
        refine wpQ0_nil ?_
        repeat ((with_reducible refine wpQ2_step (fun K hK => ?_)); go_simp; first | ((with_reducible refine hK _ ?_); clear hK K) | (apply Exists.intro; refine ⟨fun x => ?_, hK _ ?_⟩; ((with_reducible exact HCM.out x.1)); clear hK K) | (refine ite_undef (fun h => (by have h_ : (none : Option Bool) = some _ := h; cases h_)) ?_; (with_reducible refine hK _ ?_); clear hK K))
        (with_reducible refine wpQ2_nil ?_)
        refine Events.fill1 (fun b => .pointer (some ⟨b, 0, none⟩)) (Obj.cells #[.int .i64 (0), .int .i64 (0)] 31) (Obj.cells #[.int .i64 C.lo, .int .i64 C.hi] 31) ⟨_, rfl, rfl, rfl, fun W => by kernel_rfl⟩ ⟨_, rfl, rfl, rfl, fun b W hb => ?_⟩ fun b9 w5 hb9 hg5 nb9 => ?_
        · have hbc := cell_blk hb; have hbf := frz_blk hb; go_simp; exact turn_two hb _ _
        simp only [picks, List.drop_succ_cons, List.drop_zero]
        have x4 := Ext2.blk hg5 x4; have x6 := Ext2.blk hg5 x6
        have y9 := nb9
        have HE5 := Lib.hid (ext_trans HE.out hg5)
        have HO5 := Lib.hid (HO.out.below hg5)
        have HS5 : Hid (n6 + 1 ≤ w5.heap.size) := Lib.hid (Nat.le_trans HSZ.out hg5.size)
        have c0 := ext_cell' hg5 c0; have c1 := ext_cell' hg5 c1; have d0 := ext_cell' hg5 d0; have d1 := ext_cell' hg5 d1
        clear q6c q6f c2 c3 c4 c5 c6 c7 hg5
        have q6c := cell_blk x6
        have q6f := frz_blk x6
        have q9c := cell_blk y9
        have q9f := frz_blk y9
        by_cases hC : C.lo ≤ C.hi
        · have hd : decide (C.hi < C.lo) = false := decide_eq_false (by omega)
          have HF : Hid (toldS f td x = ⟨td.first, C, td.struck⟩) := Lib.hid (by rw [HCF.out, if_neg (by omega)])
          have hd2 : ¬ C.hi < C.lo := by omega
          clear hC
          go_wp2_with (fail)
          go_roundw
          case rel =>
            refine ⟨k + 1, ⟨td.first, C, td.struck⟩, (q : Int), by go_num, rfl, by omega, by rw [HTK.out, HF.out], below_set (below_set HE5.out lw6) lw6, by simp only [World.size_setCell]; exact HS5.out, .inr ⟨y, q, HY.out, HJ.out, HJY.out, rfl⟩, blk_set_ne (blk_set_ne x4 (by omega)) (by omega), Eq.trans (blk_set (blk_set x6 _ _) _ _) rfl, by have := HSK.out; dsimp only; omega, ?_⟩
            exact HO5.out.above (by repeat' (first | (with_reducible assumption) | (with_reducible exact Above.refl _ _) | (with_reducible refine Above.set ?_ (by omega)) | (with_reducible refine Above.alloc ?_ _) | (with_reducible refine Above.ext ?_ (by assumption))))
          case measure => simp [intOf]; omega
        · have hd : decide (C.hi < C.lo) = true := decide_eq_true (by omega)
          have hd2 : C.hi < C.lo := by omega
          have HF : Hid (toldS f td x = ⟨td.first, td.is, td.struck ++ [⟨x.by_, x.number, y.by_, y.number⟩]⟩) := Lib.hid (by rw [HCF.out, if_pos (by omega)])
          clear hC
          go_upto_region 12 with (fail)
          refine region_ev [] [0, 1, 2, 3, 4, 5, 6, 7, 8, 9, 10, 11, 12, 13, 14, 15, 16, 17, 18, 19, 20, 21] [(22, 75, none)] [23, 24] (by kernel_rfl) (by kernel_rfl) (by intro c a d v w h; cases d <;> exact h) ?_
          simp only [picks, List.drop_succ_cons, List.drop_zero]
          repeat (refine wpQ0_step (fun K hK => ?_); go_simp; (refine hK _ ?_; clear hK K))
          refine wpQ0_nil ?_
          repeat ((with_reducible refine wpQ2_step (fun K hK => ?_)); go_simp; first | ((with_reducible refine hK _ ?_); clear hK K) | (apply Exists.intro; refine ⟨fun x => ?_, hK _ ?_⟩; (fail); clear hK K) | (refine ite_undef (fun h => (by have h_ : (none : Option Bool) = some _ := h; cases h_)) ?_; (with_reducible refine hK _ ?_); clear hK K))
          (with_reducible refine wpQ2_nil ?_)
          refine Events.lay1 (fun b => .slice (some ⟨b, 0, none⟩) 1 1) (Obj.cells #[.string x.by_, .int .i64 x.number, .string y.by_, .int .i64 y.number] 76 (0, 0)) ⟨_, rfl, rfl, rfl, fun W => by kernel_rfl⟩ fun bq wx hbq hgx nbq => ?_
          simp only [picks, List.drop_succ_cons, List.drop_zero]
          have hOx := HO5.out.below hgx
          have hx4 := Ext2.blk hgx x4; have hx6 := Ext2.blk hgx x6
          have hsx := Nat.le_trans HS5.out hgx.size
          have hEx := ext_trans HE5.out hgx
          have hsk := HSK.out
          have HOX := Lib.hid hOx; have HX4 := Lib.hid hx4; have HX6 := Lib.hid hx6; have HSX := Lib.hid hsx; have HEX := Lib.hid hEx
          clear q6c q6f q9c q9f x4 x6 y9 c0 c1 d0 d1 hOx hx4 hx6 hsx hEx hgx HE5 HO5 HS5
          go_wp2_with (at_builtin; refine app_one_at [.string x.by_, .int .i64 x.number, .string y.by_, .int .i64 y.number] elStrike rfl _ _ rfl (n6 + 1) rfl HOX.out bq 1 rfl nbq (by simp [Value.oneCell']) (by omega) HSX.out ?_; intro v' w7 hO7 hg7 _)
          go_roundw
          case rel =>
            have h47 : w7.heap[n4]? = some (Obj.cells #[.int .i64 (0), .int .i64 (0)] 31) := (hg7.block n4 (by have := HSX.out; omega) (fun he => by have := own_ge HOX.out n4 he.symm; omega)).trans HX4.out
            have h67 : w7.heap[n6]? = some (Obj.cells #[.int .i64 td.is.lo, .int .i64 td.is.hi] 31) := (hg7.block n6 (by have := HSX.out; omega) (fun he => by have := own_ge HOX.out n6 he.symm; omega)).trans HX6.out
            exact ⟨k + 1, ⟨td.first, td.is, td.struck ++ [⟨x.by_, x.number, y.by_, y.number⟩]⟩, (q : Int), by go_num, rfl, by omega, by rw [HTK.out, HF.out], ext_grown HEX.out hg7 (fun q hq => by have := own_ge HOX.out q hq; omega), Nat.le_trans HSX.out hg7.size, .inr ⟨y, q, HY.out, HJ.out, HJY.out, rfl⟩, h47, h67, by dsimp only; simp; omega, own_sk hO7⟩
          case measure => simp [intOf]; omega
    · obtain rfl : m = k := by omega
      have hVt : V = td := by rw [HV.out, HTD.out]
      subst hVt
      obtain ⟨⟨ua, uc⟩, hv, hR⟩ := OwnR.sl HO.out
      subst hv
      have HOW := Lib.hid HO.out
      have hskl := HSK.out
      obtain ⟨sl, hsl⟩ : ∃ n, n = V.struck.length := ⟨_, rfl⟩
      rw [← hsl] at hskl ⊢
      have HSL := Lib.hid hsl; have HSKL := Lib.hid hskl
      have x4 := X4.out; have x6 := X6.out
      obtain ⟨I, hI⟩ : ∃ I, I = V.is := ⟨_, rfl⟩
      rw [← hI] at x6
      have HI := Lib.hid hI
      clear hR hsl HO hskl HFS hI
      have q4c := cell_blk x4
      have q4f := frz_blk x4
      have q6c := cell_blk x6
      have q6f := frz_blk x6
      go_wp2_with (fail)
      have r1 : ((wr.setCell ⟨n4, 0, none⟩ (.int .i64 I.lo)).setCell ⟨n4, 1, none⟩ (.int .i64 I.hi)).heap[n4]? = some (Obj.cells #[.int .i64 I.lo, .int .i64 I.hi] 31) := Eq.trans (blk_set (blk_set x4 _ _) _ _) rfl
      refine bodyPost_ret (v := .tuple #[.agg #[.int .i64 I.lo, .int .i64 I.hi], .slice ua sl uc]) ?_ rfl ⟨⟨⟨ua, uc⟩, by rw [HI.out, HSL.out], ?_, by have h := HSKL.out; rw [HSL.out] at h; exact h⟩, below_set (below_set HE.out lw) lw⟩
      · have zc := cell_blk r1
        have zf := frz_blk r1
        simp [results, Tryz.results121, go_sem, zc]
      · have h7 := OwnR.above HOW.out (Above.set (b := n4) (o := 1) (v := .int .i64 I.hi) (Above.set (b := n4) (o := 0) (v := .int .i64 I.lo) (Above.refl (n6 + 1) wr) (.inl (by omega))) (.inl (by omega)))
        exact OwnR.base h7 (by omega)
end Go.Proofs.YtojomdojblgegaaGreatDoor
