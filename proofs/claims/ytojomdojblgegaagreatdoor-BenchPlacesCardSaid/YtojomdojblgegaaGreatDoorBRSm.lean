/-
  ref.sums.
-/
import Derived.Test.YtojomdojblgegaaGreatDoorBREn
import Derived.Test.YtojomdojblgegaaGreatDoorBPlE
import Derived.Test.YtojomdojblgegaaGreatDoorBGrp
namespace Go.Proofs.YtojomdojblgegaaGreatDoor
open Go.RowKit D
set_option linter.unusedVariables false
set_option linter.unusedSimpArgs false
attribute [local go_sem high] run_minI run_maxI
attribute [local go_sem] upon2 cls_cell cls_frozen forall_const exists_eq_left'
attribute [local go_sem] FirstUpon atBlk_cell
theorem field_sp0 (x y : Int) (w : World) : Sem.run Tryz.prog (Instr.field 31 (.agg #[.int .i64 x, .int .i64 y]) 0) w = .ok (.int .i64 x) w := by kernel_rfl
theorem field_sp1 (x y : Int) (w : World) : Sem.run Tryz.prog (Instr.field 31 (.agg #[.int .i64 x, .int .i64 y]) 1) w = .ok (.int .i64 y) w := by kernel_rfl
attribute [local go_sem high] field_sp0 field_sp1
def ixgD (L : List IxG) (i : Nat) : IxG := L.getD i ([], ⟨0, 0⟩)
def smC (hs : Nat → Sl) (L : List IxG) (i j : Nat) : Value := match j with
  | 0 => .slice (hs i).a (ixgD L i).1.length (hs i).cap
  | 1 => .int .i64 (ixgD L i).2.lo
  | _ => .int .i64 (ixgD L i).2.hi
theorem smC_snoc {hs : Nat → Sl} {l : List IxG} {x : IxG} {s : Sl} {p q : Nat} (hp : p < l.length + 1) (hq : q < 3) : upd (smC hs l) l.length [.slice s.a x.1.length s.cap, .int .i64 x.2.lo, .int .i64 x.2.hi] p q = smC (updS hs l.length s) (l ++ [x]) p q := by
  have hj : ixgD (l ++ [x]) p = if p = l.length then x else ixgD l p := getD_app1 hp
  by_cases h : p = l.length
  · subst h
    rw [upd_at]
    rw [if_pos rfl] at hj
    rcases (by omega : q = 0 ∨ q = 1 ∨ q = 2) with rfl | rfl | rfl <;> simp only [smC, hj, updS, if_true] <;> rfl
  · rw [upd_lt (by omega)]
    rw [if_neg h] at hj
    rcases (by omega : q = 0 ∨ q = 1 ∨ q = 2) with rfl | rfl | rfl <;> simp only [smC, hj, updS, h, if_false]
theorem ixC_snoc {l : List Nat} {x : Nat} {i j : Nat} (hi : i < l.length + 1) (hj : j < 1) : upd (ixC l) l.length [.int .i64 (x : Int)] i j = ixC (l ++ [x]) i j := by
  obtain rfl : j = 0 := by omega
  by_cases h : i = l.length
  · subst h
    rw [upd_at]
    simp [ixC]
  · rw [upd_lt (by omega)]
    have e : (l ++ [x]).getD i 0 = l.getD i 0 := by rw [List.getD_eq_getElem?_getD, List.getD_eq_getElem?_getD, List.getElem?_append_left (by omega)]
    simp only [ixC, e]
theorem elSum : Elem Tryz.prog 108 114 (.agg #[.slice none 0 0, .int .i64 0, .int .i64 0]) 3 40 := ⟨by kernel_rfl, by kernel_rfl, rfl, by omega, by omega⟩
theorem kept_apart {w w' : World} {base2 : Nat} {e2 : TypeId} {sz2 : Nat} {v u : Value} {n2 : Nat} {c2 : Nat → Nat → Value} (ha : Apart v u) (hg : w.grownBy w' v.ownBlock) (h2 : OwnR w base2 e2 sz2 u n2 c2) : OwnR w' base2 e2 sz2 u n2 c2 := by
  refine h2.kept hg ?_
  cases hu : u.ownBlock with
  | none => exact .inl rfl
  | some b => exact .inr fun he => ha b he.symm hu
theorem apart_new {v v' u : Value} {w : World} {base : Nat} {e : TypeId} {sz : Nat} {n : Nat} {c : Nat → Nat → Value} (h : Apart v u) (hu : OwnR w base e sz u n c) (hp : v'.ownBlock = v.ownBlock ∨ v'.ownBlock = some w.heap.size) : Apart v' u := fun b h1 h2 => by
  rcases hp with hp | hp
  · exact h b (by rw [← hp]; exact h1) h2
  · have := own_blk_lt hu h2
    rw [hp] at h1
    have : w.heap.size = b := by simpa using h1
    omega
/-- The value of the indices of a sum. -/
def ehV (hs : Nat → Sl) (L : List IxG) (i : Nat) : Value := .slice (hs i).a (ixgD L i).1.length (hs i).cap
/-- Between two rounds of sums. -/
structure SmI (nu gn : Nat) (L : List IxG) (wr : List Int) (u : Nat → Bool) (hs : Nat → Sl) (av wv : Value) (w W : World) : Prop where
  bel : Ext2 w W
  lb : w.heap.size = nu
  sz : nu + 1 ≤ W.heap.size
  used : OwnR W nu 4 1 (.slice (some ⟨nu, 0, none⟩) gn gn) gn (fun k _ => .bool (u k))
  all : OwnR W (nu + 1) 114 3 av L.length (smC hs L)
  wrong : OwnR W (nu + 1) 3 1 wv wr.length (intC wr)
  each : ∀ i, i < L.length → OwnR W (nu + 1) 3 1 (ehV hs L i) (ixgD L i).1.length (ixC (ixgD L i).1)
  apart : ∀ i, i < L.length → Apart wv (ehV hs L i)
/-- A further list of indices beside them. -/
structure SmB (nu : Nat) (L : List IxG) (hs : Nat → Sl) (wv bv : Value) (b : List Nat) (W : World) : Prop where
  own : OwnR W (nu + 1) 3 1 bv b.length (ixC b)
  wr : Apart bv wv
  each : ∀ i, i < L.length → Apart bv (ehV hs L i)
section
variable {nu gn : Nat} {L : List IxG} {wr : List Int} {u : Nat → Bool} {hs : Nat → Sl} {av wv bv : Value} {b : List Nat} {w W W' : World}
theorem SmI.ext (h : SmI nu gn L wr u hs av wv w W) (hE : Ext2 W W') : SmI nu gn L wr u hs av wv w W' :=
  ⟨ext_trans h.bel hE, h.lb, Nat.le_trans h.sz hE.size, h.used.below hE, h.all.below hE, h.wrong.below hE, fun i hi => (h.each i hi).below hE, h.apart⟩
theorem SmB.ext (h : SmB nu L hs wv bv b W) (hE : Ext2 W W') : SmB nu L hs wv bv b W' := ⟨h.own.below hE, h.wr, h.each⟩
theorem smB_nil : SmB nu L hs wv (.slice none 0 0) [] W := ⟨own_nil _ _ _ _ _, Apart.nil _, fun _ _ => Apart.nil _⟩
theorem sm_ext (hb : Ext2 w W) (lb : w.heap.size = nu) {row : Option Nat} (hg : W.grownBy W' row) (hr : ∀ k, row = some k → nu + 1 ≤ k) : Ext2 w W' :=
  ext_grown hb hg (fun k hk => by have := hr k hk; omega)
theorem SmI.appW (h : SmI nu gn L wr u hs av wv w W) (hg : W.grownBy W' wv.ownBlock) {v' : Value} {x : Int} {n : Nat} (hn : n = wr.length) (hp : v'.ownBlock = wv.ownBlock ∨ v'.ownBlock = some W.heap.size) (hO : OwnR W' (nu + 1) 3 1 v' (n + 1) (upd (intC wr) n [.int .i64 x])) : SmI nu gn L (wr ++ [x]) u hs av v' w W' := by
  subst hn
  exact ⟨sm_ext h.bel h.lb hg (own_block h.wrong), h.lb, Nat.le_trans h.sz hg.size, own_other h.wrong hg h.used (by decide), own_other h.wrong hg h.all (by decide), by
    rw [List.length_append, List.length_singleton]
    exact OwnR.congr hO fun i j hi hj => intC_snoc hi hj, fun i hi => kept_apart (h.apart i hi) hg (h.each i hi), fun i hi => apart_new (h.apart i hi) (h.each i hi) hp⟩
theorem SmI.appB (h : SmI nu gn L wr u hs av wv w W) (hB : SmB nu L hs wv bv b W) (hg : W.grownBy W' bv.ownBlock) : SmI nu gn L wr u hs av wv w W' :=
  ⟨sm_ext h.bel h.lb hg (own_block hB.own), h.lb, Nat.le_trans h.sz hg.size, own_other hB.own hg h.used (by decide), own_other hB.own hg h.all (by decide), kept_apart hB.wr hg h.wrong, fun i hi => kept_apart (hB.each i hi) hg (h.each i hi), h.apart⟩
theorem SmB.app (hB : SmB nu L hs wv bv b W) (h : SmI nu gn L wr u hs av wv w W) (hg : W.grownBy W' bv.ownBlock) {v' : Value} {x n : Nat} (hn : n = b.length) (hp : v'.ownBlock = bv.ownBlock ∨ v'.ownBlock = some W.heap.size) (hO : OwnR W' (nu + 1) 3 1 v' (n + 1) (upd (ixC b) n [.int .i64 (x : Int)])) : SmB nu L hs wv v' (b ++ [x]) W' := by
  subst hn
  exact ⟨by
    rw [List.length_append, List.length_singleton]
    exact OwnR.congr hO fun i j hi hj => ixC_snoc hi hj, apart_new hB.wr h.wrong hp, fun i hi => apart_new (hB.each i hi) (h.each i hi) hp⟩
theorem SmI.appA (h : SmI nu gn L wr u hs av wv w W) {s : Sl} {m n : Nat} {x : IxG} (hm : m = x.1.length) (hB : SmB nu L hs wv (.slice s.a m s.cap) x.1 W) (hg : W.grownBy W' av.ownBlock) {v' : Value} (hn : n = L.length) (hO : OwnR W' (nu + 1) 114 3 v' (n + 1) (upd (smC hs L) n [.slice s.a m s.cap, .int .i64 x.2.lo, .int .i64 x.2.hi])) : SmI nu gn (L ++ [x]) wr u (updS hs L.length s) v' wv w W' := by
  subst hn hm
  have key : ∀ i, i < L.length + 1 → (i = L.length ∧ ehV (updS hs L.length s) (L ++ [x]) i = .slice s.a x.1.length s.cap ∧ ixgD (L ++ [x]) i = x) ∨ (i < L.length ∧ ehV (updS hs L.length s) (L ++ [x]) i = ehV hs L i ∧ ixgD (L ++ [x]) i = ixgD L i) := fun i hi => by
    have hj : ixgD (L ++ [x]) i = if i = L.length then x else ixgD L i := getD_app1 hi
    by_cases he : i = L.length
    · subst he
      rw [if_pos rfl] at hj
      exact .inl ⟨rfl, by simp only [ehV, hj, updS, if_true], hj⟩
    · rw [if_neg he] at hj
      exact .inr ⟨by omega, by simp only [ehV, hj, updS, he, if_false], hj⟩
  refine ⟨sm_ext h.bel h.lb hg (own_block h.all), h.lb, Nat.le_trans h.sz hg.size, own_other h.all hg h.used (by decide), ?_, own_other h.all hg h.wrong (by decide), fun i hi => ?_, fun i hi => ?_⟩
  · rw [List.length_append, List.length_singleton]
    exact OwnR.congr hO fun i j hi hj => smC_snoc hi hj
  · rw [List.length_append, List.length_singleton] at hi
    rcases key i hi with ⟨-, e1, e2⟩ | ⟨h1, e1, e2⟩
    · rw [e1, e2]; exact own_other h.all hg hB.own (by decide)
    · rw [e1, e2]; exact own_other h.all hg (h.each i h1) (by decide)
  · rw [List.length_append, List.length_singleton] at hi
    rcases key i hi with ⟨-, e1, e2⟩ | ⟨h1, e1, e2⟩
    · rw [e1]; exact hB.wr.symm
    · rw [e1]; exact h.apart i h1
theorem SmI.setU (h : SmI nu gn L wr u hs av wv w W) {q : Nat} (hq : q < gn) {u' : Nat → Bool} (hu : ∀ k, k < gn → u' k = if k = q then true else u k) : SmI nu gn L wr u' hs av wv w (W.setCell ⟨nu, q, none⟩ (.bool true)) := by
  have ha : Above (nu + 1) W (W.setCell ⟨nu, q, none⟩ (.bool true)) := Above.set (Above.refl _ _) (.inl (by omega))
  exact ⟨below_set h.bel (by rw [h.lb]; exact Nat.le_refl _), h.lb, by rw [World.size_setCell]; exact h.sz, OwnR.set1 h.used hq (.bool true) (fun i hi => by rw [hu i hi]; split <;> rfl), h.all.above ha, h.wrong.above ha, fun i hi => (h.each i hi).above ha, h.apart⟩
theorem SmB.setU (hB : SmB nu L hs wv bv b W) {q : Nat} : SmB nu L hs wv bv b (W.setCell ⟨nu, q, none⟩ (.bool true)) :=
  ⟨hB.own.above (Above.set (Above.refl _ _) (.inl (by omega))), hB.wr, hB.each⟩
theorem SmI.congrU (h : SmI nu gn L wr u hs av wv w W) {u' : Nat → Bool} (hu : ∀ k, k < gn → u k = u' k) : SmI nu gn L wr u' hs av wv w W :=
  ⟨h.bel, h.lb, h.sz, OwnR.congr h.used fun i j hi hj => by rw [hu i hi], h.all, h.wrong, h.each, h.apart⟩
/-- Sums as the caller sees them. -/
structure SumsS (w : World) (s : Sl) (hs : Nat → Sl) (L : List IxG) : Prop where
  row : RowS w s 3 L.length (smC hs L)
  each : ∀ i, i < L.length → IxS w (hs i) (ixgD L i).1
theorem SumsS.below {s : Sl} (h : SumsS w s hs L) (hb : Below w.heap.size w W) : SumsS W s hs L := ⟨h.row.below hb, fun i hi => (h.each i hi).below hb⟩
theorem SmI.view {s : Sl} (h : SmI nu gn L wr u hs (.slice s.a L.length s.cap) wv w W) : SumsS W s hs L :=
  ⟨own_row h.all, fun i hi => own_row (h.each i hi)⟩
end
theorem turn_three {b : Nat} {W : World} {x y z : Value} {t : TypeId} (hb : W.heap[b]? = some (.cells #[x, y, z] t (0, 0))) (u v q : Value) : Turn b (.cells #[u, v, q] t (0, 0)) W (((W.setCell ⟨b, 0, none⟩ u).setCell ⟨b, 1, none⟩ v).setCell ⟨b, 2, none⟩ q) := by
  have h := ((turn_set (o := 0) hb u).set (o := 1) v).set (o := 2) q
  simpa using h
def SmOut (w : World) (R : List IxG × List Int) (e : Ending) (w' : World) : Prop := (∃ (s1 s2 : Sl) (hs : Nat → Sl), e = .returned (.tuple #[.slice s1.a R.1.length s1.cap, .slice s2.a R.2.length s2.cap]) ∧ SumsS w' s1 hs R.1 ∧ IntsS w' s2 R.2) ∧ Below w.heap.size w w'
set_option maxRecDepth 100000 in
set_option maxHeartbeats 8000000 in
theorem sumsR_any {T : Task} {t : TSl} {N : List Note} {ns sg : Sl} {gs : List Gap} {F : Nat} {w : World} (hok : TaskOk T) (hM : MarksS w t.r.m T.reel.marks) (hF : T.reel.frames = (F : Int)) (hFB : 1 ≤ F ∧ F ≤ 200000) (hN : NotesS w ns N) (hG : GapsS w sg gs) (hin : ∀ x ∈ gs, GapIn x) (hgl : gs.length ≤ 200001) :
    Calls Tryz.prog 85 #[.agg #[.string T.reel.name, .int .i64 T.reel.gauge, .int .i64 T.reel.base, .int .i64 T.reel.frames, .int .i64 T.reel.ylo, .int .i64 T.reel.yhi, .int .i64 T.reel.keep, .slice t.r.m.a T.reel.marks.length t.r.m.cap, .slice t.r.s.a T.reel.syms.length t.r.s.cap, .slice t.r.l.a T.reel.lens.length t.r.l.cap, .int .i64 T.whole.lo, .int .i64 T.whole.hi, .slice t.n.a T.notes.length t.n.cap], .slice ns.a N.length ns.cap, .slice sg.a gs.length sg.cap] w (SmOut w (sumsV (footV T.reel.gauge) F N gs T.reel.marks T.whole)) := by
  have hrk := hok.reel
  have hwh := hok.whole
  have hmk : MarksIn F T.reel.marks := ⟨hrk.nm, fun i hi => by have := hrk.mark i hi; rw [hF] at this; exact this, hrk.up⟩
  have hft : 0 ≤ footV T.reel.gauge ∧ footV T.reel.gauge ≤ 80 := by rcases foot_cases T.reel.gauge with h | h | h | h <;> omega
  have HAB := Lib.hid fun (W : World) (hW : Ext2 w W) (f : Int) => aboutR_any (kind := 3) (f := f) (RowS.below hN hW)
  have HPI := Lib.hid fun (W : World) (hW : Ext2 w W) (a b : Nat) (hab : a ≤ b) (hb : b ≤ 1000000) => pictureR_any (RowS.below hN hW) hab hb
  have HEN := Lib.hid fun (W : World) (hW : Ext2 w W) (ix : List Nat) (s : Sl) (h : IxS W s ix) (hi : ∀ i ∈ ix, i < gs.length) (hl : ix.length ≤ 200001) => endsR_any (RowS.below hG hW) h hi hin hl
  have HEB := Lib.hid fun (ix : List Nat) (hi : ∀ i ∈ ix, i < gs.length) (hl : ix.length ≤ 200001) => ends_bd hi hin hl
  have HFT := Lib.hid fun (W : World) => footR_any T.reel.gauge W
  have HLF := Lib.hid fun k hk => smK_left (l := N) (gs := gs) hft hmk hFB.2 k hk
  have HLN := Lib.hid fun k => smK_len (foot := footV T.reel.gauge) (F := F) (l := N) (gs := gs) (ms := T.reel.marks) k
  have HSC := Lib.hid fun k => smK_succ (footV T.reel.gauge) F N gs T.reel.marks k
  have HMI := Lib.hid fun (a b : D.Mark) h1 h2 h3 h4 => miss_in (l := N) (a := a) (b := b) hft h1 h2 h3 h4
  have HMK := Lib.hid hmk; have HGS := Lib.hid hG; have HMS := Lib.hid hM; have HWH := Lib.hid hwh
  obtain ⟨foot, hfoot⟩ : ∃ f, f = footV T.reel.gauge := ⟨_, rfl⟩
  rw [← hfoot] at HFT HLF HLN HSC HMI hft ⊢
  have HFO := Lib.hid hft
  obtain ⟨R, hR⟩ : ∃ R, R = sumsV foot F N gs T.reel.marks T.whole := ⟨_, rfl⟩
  rw [← hR]
  have HR := Lib.hid hR
  obtain ⟨⟨⟨ma, mc⟩, sy, ln⟩, tn⟩ := t
  obtain ⟨na, nc⟩ := ns
  obtain ⟨sa, sc⟩ := sg
  obtain ⟨nl, hnl⟩ : ∃ n, n = N.length := ⟨_, rfl⟩
  obtain ⟨gn, hgn⟩ : ∃ n, n = gs.length := ⟨_, rfl⟩
  rw [← hnl] at HAB HPI ⊢; rw [← hgn] at HEN HEB hgl ⊢
  have HGN := Lib.hid hgn
  dsimp only at HAB HPI HEN HMS HGS
  have hgle := HGS.out.le; have hgmx := HGS.out.max; have hmle := HMS.out.le; have hmmx := HMS.out.max
  rw [← hgn] at hgle
  dsimp only at hgle hgmx hmle hmmx
  have HFI := Lib.hid hF; have HFB := Lib.hid hFB
  have hM6 := hmk.n
  clear hok hM hF hFB hN hG hin hrk hmk hft hfoot hR hnl hgn hwh
  go_enter Tryz.func85, Tryz.ntmps85
  go_upto_region 1 with (fail)
  refine wp_name ?_
  intro w3 hw3
  obtain ⟨n3, hn3⟩ : ∃ n, n = w.heap.size := ⟨_, rfl⟩
  have x3 : w3.heap[n3]? = some (Obj.cells #[.string T.reel.name, .int .i64 T.reel.gauge, .int .i64 T.reel.base, .int .i64 T.reel.frames, .int .i64 T.reel.ylo, .int .i64 T.reel.yhi, .int .i64 T.reel.keep, .slice (⟨⟨⟨ma, mc⟩, sy, ln⟩, tn⟩ : TSl).r.m.a T.reel.marks.length (⟨⟨⟨ma, mc⟩, sy, ln⟩, tn⟩ : TSl).r.m.cap, .slice (⟨⟨⟨ma, mc⟩, sy, ln⟩, tn⟩ : TSl).r.s.a T.reel.syms.length (⟨⟨⟨ma, mc⟩, sy, ln⟩, tn⟩ : TSl).r.s.cap, .slice (⟨⟨⟨ma, mc⟩, sy, ln⟩, tn⟩ : TSl).r.l.a T.reel.lens.length (⟨⟨⟨ma, mc⟩, sy, ln⟩, tn⟩ : TSl).r.l.cap, .int .i64 T.whole.lo, .int .i64 T.whole.hi, .slice (⟨⟨⟨ma, mc⟩, sy, ln⟩, tn⟩ : TSl).n.a T.notes.length (⟨⟨⟨ma, mc⟩, sy, ln⟩, tn⟩ : TSl).n.cap] 38) := by rw [hw3, hn3]; exact blk_new _ _
  have hE3 : Ext2 w w3 := by rw [hw3]; exact below_alloc' _ _
  rw [← hn3]
  dsimp only at x3 ⊢
  have HE3 := Lib.hid hE3; have X3 := Lib.hid x3
  clear hw3 hn3 hE3
  go_upto_region 4 with (at_make; refine wpList_mk elBool rfl _ rfl gn rfl (by omega) ?_)
  refine wp_name ?_
  intro w5 hw5
  obtain ⟨nu, hnu⟩ : ∃ n, n = w3.heap.size := ⟨_, rfl⟩
  have hb5 : w5.heap[nu]? = some (.cells (madeCells #[Value.bool false] gn) 4 (0, 0)) := by rw [hw5, hnu]; exact blk_new _ _
  have hE5 : Ext2 w3 w5 := by rw [hw5]; exact below_alloc' _ _
  have hU : OwnR w5 nu 4 1 (.slice (some ⟨nu, 0, none⟩) gn gn) gn (fun k _ => .bool false) := OwnR.congr (own_made (sz := 1) (z := #[Value.bool false]) rfl (by omega) (by unfold maxLen; omega) (Nat.le_refl _) (by rw [Nat.mul_one]; exact hb5)) (fun i j hi hj => by obtain rfl : j = 0 := (by omega); rfl)
  have hS : SmI nu gn [] [] (fun _ => false) (fun _ => ⟨none, 0⟩) (.slice none 0 0) (.slice none 0 0) w3 w5 := ⟨hE5, hnu.symm, blk_lt hb5, hU, own_nil _ _ _ _ _, own_nil _ _ _ _ _, fun i hi => absurd hi (Nat.not_lt_zero i), fun i hi => absurd hi (Nat.not_lt_zero i)⟩
  rw [← hnu]
  have HS5 := Lib.hid hS; have X5 := Lib.hid (Ext2.blk hE5 X3.out)
  clear hw5 hnu hb5 hE5 hU hS
  have x5 := X5.out
  have q3c := cell_blk x5
  have q3f := frz_blk x5
  clear x5
  have wF : IntKind.i64.wrap (T.reel.frames - 1) = (F : Int) - 1 := by rw [HFI.out]; exact IntWalk.i64_in _ (by have := HFB.out; omega)
  have HP0 : Hid (Calls Tryz.prog 89 #[.slice na nl nc, .int .i64 0, .int .i64 ((F : Int) - 1)] w5 fun e w' => e = .returned (.int .i64 (picB N F)) ∧ Below w5.heap.size w5 w') := Lib.hid (by have h := HPI.out w5 (ext_trans HE3.out HS5.out.bel) 0 F (by omega) (by have := HFB.out; omega); rw [show picB N F - picB N 0 = picB N F by rw [show picB N 0 = 0 from rfl, Int.sub_zero]] at h; exact h)
  go_wp2_with (fail)
  (with_reducible refine HP0.out.mono ?_)
  rintro e w6 ⟨rfl, hE6⟩
  have HS6 := Lib.hid (HS5.out.ext hE6)
  clear hE6 HP0 HS5 X5 q3c q3f wF
  go_wp2_with (fail)
  go_loopw [8, 9, 11, 12] (fun av wv lv iv W => ∃ (k : Nat) (hs : Nat → Sl), iv = .int .i64 k ∧ 1 ≤ k ∧ (k ≤ T.reel.marks.length ∨ k = 1) ∧ lv = .int .i64 (smK foot F N gs T.reel.marks k).left ∧ SmI nu gn (smK foot F N gs T.reel.marks k).all (smK foot F N gs T.reel.marks k).wrong (smK foot F N gs T.reel.marks k).used hs av wv w3 W) (fun _ _ _ iv _ => T.reel.marks.length - (intOf iv).toNat)
  case atStart => exact ⟨1, fun _ => ⟨none, 0⟩, rfl, by omega, .inr rfl, by rw [smK_one], by rw [smK_one]; exact HS6.out⟩
  case round =>
    clear HS6
    obtain ⟨k, hs, rfl, hk1, hk, rfl, hS⟩ := hrel
    obtain ⟨st, hst⟩ : ∃ st, st = smK foot F N gs T.reel.marks k := ⟨_, rfl⟩
    rw [← hst] at hS ⊢
    have HST := Lib.hid hst
    obtain ⟨L, wrg, left, used⟩ := st
    dsimp only at hS ⊢
    have HS := Lib.hid hS
    have x3 := Ext2.blk hS.bel X3.out
    have q3c := cell_blk x3
    have q3f := frz_blk x3
    clear hst hS x3
    by_cases hlt : k < T.reel.marks.length
    · go_light
      have hlfb := HLF.out k (by omega)
      have hlen := HLN.out k
      have hsc := HSC.out k
      rw [← HST.out] at hlfb hlen hsc
      unfold smS at hsc
      dsimp only at hlfb hlen hsc
      have HEW := Lib.hid (ext_trans HE3.out HS.out.bel)
      obtain ⟨q, hq⟩ : ∃ q, q = k - 1 := ⟨_, rfl⟩
      have hqk : (q : Int) = (k : Int) - 1 := by omega
      rw [← hq] at hsc
      obtain ⟨b, off, hma, a0, a1, a2⟩ := mk_cells (RowS.below HMS.out HEW.out) (i := q) (by omega)
      obtain ⟨b', off', hma', b0, b1, b2⟩ := mk_cells (RowS.below HMS.out HEW.out) (i := k) hlt
      have hmA := HMK.out.mark q (by omega); have hmB := HMK.out.mark k hlt
      have hup := HMK.out.up k (by omega) hlt
      rw [← hq] at hup
      obtain ⟨A, hA⟩ : ∃ A, A = mkD T.reel.marks q := ⟨_, rfl⟩
      obtain ⟨B, hB⟩ : ∃ B, B = mkD T.reel.marks k := ⟨_, rfl⟩
      rw [← hA] at a0 a1 a2 hmA hup hsc; rw [← hB] at b0 b1 b2 hmB hup hsc
      have hbt : ∀ j, btI gs T.reel.marks k j = betw A B (gpD gs j) := fun j => by unfold btI; rw [← hq, ← hA, ← hB]
      have hskp : skipM N T.reel.marks k ↔ A.roll ≠ B.roll ∨ about N 3 A.frame = true ∨ about N 3 B.frame = true := by
        unfold skipM; rw [← hq, ← hA, ← hB]
        constructor
        · rintro (h | h)
          · omega
          · exact h
        · exact .inr
      obtain ⟨nv, hnv⟩ : ∃ n, n = missN foot N A B := ⟨_, rfl⟩
      have hmi := HMI.out A B hmA.2.2 hmB.2.2 (by have := HFB.out; omega) (by have := HFB.out; omega)
      rw [← hnv] at hmi hsc
      dsimp only at hma hma'
      subst hma
      cases hma'
      have HBT := Lib.hid hbt; have HSK := Lib.hid hskp; have HSC2 := Lib.hid hsc; have HNV := Lib.hid hnv; have HMA := Lib.hid hmA; have HMB := Lib.hid hmB; have HUP := Lib.hid hup; have HLFB := Lib.hid hlfb; have HLEN := Lib.hid hlen; have HMIV := Lib.hid hmi
      have w1' : IntKind.i64.wrap ((k : Int) + 1) = (k : Int) + 1 := IntWalk.i64_in _ (by omega)
      have w2' : IntKind.i64.wrap ((k : Int) - 1) = (q : Int) := by rw [IntWalk.i64_in _ (by omega)]; exact hqk.symm
      have g1 : (0 : Int) ≤ (q : Int) := by omega
      have g2 : (q : Int) < (T.reel.marks.length : Int) := by omega
      have g3 : (0 : Int) ≤ (k : Int) := by omega
      have g4 : (k : Int) < (T.reel.marks.length : Int) := by omega
      have e1 : decide ((0 : Int) ≤ (q : Int)) = true := decide_eq_true g1
      have e2 : decide ((q : Int) < (T.reel.marks.length : Int)) = true := decide_eq_true g2
      have e3 : decide ((0 : Int) ≤ (k : Int)) = true := decide_eq_true g3
      have e4 : decide ((k : Int) < (T.reel.marks.length : Int)) = true := decide_eq_true g4
      clear hq hqk hA hB hbt hskp hsc hnv hmA hmB hup hlfb hlen hmi
      go_upto_region 8 with (fail)
      refine region_ev [] [0, 1, 2, 3, 4, 5, 6, 7, 8, 9, 10, 11, 12] [(13, 13, some 15), (14, 14, some 16)] [] (by kernel_rfl) (by kernel_rfl) (by intro c a d v w h; cases d <;> exact h) ?_
      simp only [picks, List.drop_succ_cons, List.drop_zero]
      repeat (refine wpQ0_step (fun K hK => ?_); go_simp; (refine hK _ ?_; clear hK K))
      refine wpQ0_nil ?_
      repeat ((with_reducible refine wpQ2_step (fun K hK => ?_)); go_simp; first | ((with_reducible refine hK _ ?_); clear hK K) | (apply Exists.intro; refine ⟨fun x => ?_, hK _ ?_⟩; (fail); clear hK K) | (refine ite_undef (fun h => (by have h_ : (none : Option Bool) = some _ := h; cases h_)) ?_; (with_reducible refine hK _ ?_); clear hK K))
      (with_reducible refine wpQ2_nil ?_)
      refine Events.fill2 (fun b => .pointer (some ⟨b, 0, none⟩)) (Obj.cells #[.int .i64 0, .int .i64 0, .int .i64 0] 131 (0, 0)) (Obj.cells #[.int .i64 A.frame, .int .i64 A.roll, .int .i64 A.number] 131) (fun b => .pointer (some ⟨b, 0, none⟩)) (Obj.cells #[.int .i64 0, .int .i64 0, .int .i64 0] 131 (0, 0)) (Obj.cells #[.int .i64 B.frame, .int .i64 B.roll, .int .i64 B.number] 131) ⟨_, rfl, rfl, rfl, fun W => by kernel_rfl⟩ ⟨_, rfl, rfl, rfl, fun b W hb => ?_⟩ ⟨_, rfl, rfl, rfl, fun W => by kernel_rfl⟩ ⟨_, rfl, rfl, rfl, fun b W hb => ?_⟩ (by omega) fun n13 n14 w8 hn13 hn14 hnen13 hg8 nn13 nn14 => ?_
      · have hbc := cell_blk hb; have hbf := frz_blk hb; go_simp; exact turn_three hb _ _ _
      · have hbc := cell_blk hb; have hbf := frz_blk hb; go_simp; exact turn_three hb _ _ _
      simp only [picks, List.drop_succ_cons, List.drop_zero]
      have HS8 := Lib.hid (HS.out.ext hg8)
      have Y13 := Lib.hid nn13; have Y14 := Lib.hid nn14
      have HEW8 := Lib.hid (ext_trans HE3.out HS8.out.bel)
      clear q3c q3f a0 a1 a2 b0 b1 b2 hg8 hn13 hn14 nn13 nn14 hnen13 HS HEW w2' g1 g2 g3 g4 e1 e2 e3 e4
      have y13 := Y13.out; have y14 := Y14.out
      have q13c := cell_blk y13
      have q13f := frz_blk y13
      have q14c := cell_blk y14
      have q14f := frz_blk y14
      clear y13 y14
      by_cases hr : A.roll = B.roll
      case neg =>
        have HF : Hid (smK foot F N gs T.reel.marks (k + 1) = ⟨L, wrg, left, used⟩) := Lib.hid (by rw [HSC2.out, if_pos (HSK.out.2 (.inl hr))])
        have r1 : (A.roll != B.roll) = true := by simpa using hr
        clear hr
        go_wp2_with (fail)
        clear q13c q13f q14c q14f
        go_roundw
        case rel => exact ⟨k + 1, hs, by go_num, by omega, .inl (by omega), by rw [HF.out], by rw [HF.out]; exact HS8.out⟩
        case measure => simp [intOf]; omega
      have r1 : (A.roll != B.roll) = false := by simpa using hr
      have HA1 : Hid (∀ W, Ext2 w W → Calls Tryz.prog 55 #[.slice na nl nc, .int .i64 3, .int .i64 A.frame] W fun e w' => e = .returned (.bool (about N 3 A.frame)) ∧ Below W.heap.size W w') := Lib.hid fun W hW => HAB.out W hW A.frame
      have HA2 : Hid (∀ W, Ext2 w W → Calls Tryz.prog 55 #[.slice na nl nc, .int .i64 3, .int .i64 B.frame] W fun e w' => e = .returned (.bool (about N 3 B.frame)) ∧ Below W.heap.size W w') := Lib.hid fun W hW => HAB.out W hW B.frame
      obtain ⟨lA, hlA⟩ : ∃ b, b = about N 3 A.frame := ⟨_, rfl⟩
      obtain ⟨lB, hlB⟩ : ∃ b, b = about N 3 B.frame := ⟨_, rfl⟩
      have hskp := HSK.out
      rw [← hlA] at HA1 hskp; rw [← hlB] at HA2 hskp
      have HSK2 := Lib.hid hskp; have HR0 := Lib.hid hr
      clear hlA hlB hskp HSK hr
      go_wp2_with (fail)
      (with_reducible refine (HA1.out _ HEW8.out).mono ?_)
      rintro e w9 ⟨rfl, hE9⟩
      have HS9 := Lib.hid (HS8.out.ext hE9); have HEW9 := Lib.hid (ext_trans HEW8.out hE9)
      have Y139 := Lib.hid (Ext2.blk hE9 Y13.out); have Y149 := Lib.hid (Ext2.blk hE9 Y14.out)
      clear q13c q13f q14c q14f hE9 HA1 Y13 Y14 HS8 HEW8
      cases lA with
      | true =>
        have HF : Hid (smK foot F N gs T.reel.marks (k + 1) = ⟨L, wrg, left, used⟩) := Lib.hid (by rw [HSC2.out, if_pos (HSK2.out.2 (.inr (.inl rfl)))])
        go_wp2_with (fail)
        go_roundw
        case rel => exact ⟨k + 1, hs, by go_num, by omega, .inl (by omega), by rw [HF.out], by rw [HF.out]; exact HS9.out⟩
        case measure => simp [intOf]; omega
      | false =>
      have y13 := Y139.out; have y14 := Y149.out
      have q13c := cell_blk y13
      have q13f := frz_blk y13
      have q14c := cell_blk y14
      have q14f := frz_blk y14
      clear y13 y14
      go_wp2_with (fail)
      (with_reducible refine (HA2.out _ HEW9.out).mono ?_)
      rintro e w10 ⟨rfl, hE10⟩
      have HS10 := Lib.hid (HS9.out.ext hE10); have HEW10 := Lib.hid (ext_trans HEW9.out hE10)
      have Y13 := Lib.hid (Ext2.blk hE10 Y139.out); have Y14 := Lib.hid (Ext2.blk hE10 Y149.out)
      clear q13c q13f q14c q14f hE10 HA2 Y139 Y149 HS9 HEW9
      cases lB with
      | true =>
        have HF : Hid (smK foot F N gs T.reel.marks (k + 1) = ⟨L, wrg, left, used⟩) := Lib.hid (by rw [HSC2.out, if_pos (HSK2.out.2 (.inr (.inr rfl)))])
        go_wp2_with (fail)
        go_roundw
        case rel => exact ⟨k + 1, hs, by go_num, by omega, .inl (by omega), by rw [HF.out], by rw [HF.out]; exact HS10.out⟩
        case measure => simp [intOf]; omega
      | false =>
      have HNS : Hid (¬ skipM N T.reel.marks k) := Lib.hid fun h => by
        rcases HSK2.out.1 h with h | h | h
        · exact h HR0.out
        · cases h
        · cases h
      have hsc3 := HSC2.out
      rw [if_neg HNS.out] at hsc3
      have HSC3 := Lib.hid hsc3
      clear hsc3 HSC2 HSK2 HNS HR0 r1
      have HFT2 : Hid (∀ W, Calls Tryz.prog 60 #[.int .i64 T.reel.gauge] W fun e w' => e = .returned (.int .i64 foot) ∧ Below W.heap.size W w') := Lib.hid fun W => HFT.out W
      have hA0 := HMA.out; have hB0 := HMB.out; have hup := HUP.out
      have hfb := HFB.out
      obtain ⟨D, hD⟩ : ∃ D, D = picB N (B.frame + 1).toNat - picB N (A.frame + 1).toNat := ⟨_, rfl⟩
      have HPQ : Hid (∀ W, Ext2 w10 W → Calls Tryz.prog 89 #[.slice na nl nc, .int .i64 (A.frame + 1), .int .i64 B.frame] W fun e w' => e = .returned (.int .i64 D) ∧ Below W.heap.size W w') := Lib.hid fun W hW => by
        have h := HPI.out W (ext_trans HEW10.out hW) (A.frame + 1).toNat (B.frame + 1).toNat (by omega) (by omega)
        rw [← hD, show (((A.frame + 1).toNat : Nat) : Int) = A.frame + 1 by omega, show (((B.frame + 1).toNat : Nat) : Int) - 1 = B.frame by omega] at h
        exact h
      have hDb : 0 ≤ D ∧ D ≤ 200000 := by
        have h1 := pic_mono (l := N) (a := (A.frame + 1).toNat) (b := (B.frame + 1).toNat) (by omega)
        rw [← hD] at h1; omega
      have hnv := HNV.out
      unfold missN at hnv
      rw [← hD] at hnv
      have hmi := HMIV.out
      obtain ⟨P, hP⟩ : ∃ P, P = (B.number - A.number) * foot := ⟨_, rfl⟩
      rw [← hP] at hnv
      have w2' : IntKind.i64.wrap (A.frame + 1) = A.frame + 1 := IntWalk.i64_in _ (by omega)
      have w3' : IntKind.i64.wrap (B.number - A.number) = B.number - A.number := IntWalk.i64_in _ (by omega)
      have w4' : IntKind.i64.wrap ((B.number - A.number) * foot) = P := by rw [← hP]; exact IntWalk.i64_in _ (by omega)
      have w5' : IntKind.i64.wrap (P - D) = nv := by rw [IntWalk.i64_in _ (by omega)]; exact hnv.symm
      clear hA0 hB0 hup hfb hD hDb hnv hmi hP
      have x3 := Ext2.blk HS10.out.bel X3.out
      have y13 := Y13.out; have y14 := Y14.out
      have q3c := cell_blk x3
      have q3f := frz_blk x3
      have q13c := cell_blk y13
      have q13f := frz_blk y13
      have q14c := cell_blk y14
      have q14f := frz_blk y14
      clear x3 y13 y14
      go_upto_region 10 with (fail)
      refine region_ev [] [0, 1, 2, 3, 4, 5, 6, 7, 8, 9, 10, 11, 12, 13, 14, 15, 16, 17, 18] [] [] (by kernel_rfl) (by kernel_rfl) (by intro c a d v w h; cases d <;> exact h) ?_
      simp only [picks, List.drop_succ_cons, List.drop_zero]
      repeat (refine wpQ0_step (fun K hK => ?_); go_simp; (refine hK _ ?_; clear hK K))
      refine wpQ0_nil ?_
      repeat ((with_reducible refine wpQ2_step (fun K hK => ?_)); go_simp; first | ((with_reducible refine hK _ ?_); clear hK K) | (apply Exists.intro; refine ⟨fun x => ?_, hK _ ?_⟩; ((first | (with_reducible exact HFT2.out x.1) | (with_reducible exact HPQ.out x.1 x.2))); clear hK K) | (refine ite_undef (fun h => (by have h_ : (none : Option Bool) = some _ := h; cases h_)) ?_; (with_reducible refine hK _ ?_); clear hK K))
      (with_reducible refine wpQ2_nil ?_)
      refine Events.none_ fun w11 hg11 => ?_
      simp only [picks, List.drop_succ_cons, List.drop_zero]
      have HS11 := Lib.hid (HS10.out.ext hg11)
      have Y131 := Lib.hid (Ext2.blk hg11 Y13.out); have Y141 := Lib.hid (Ext2.blk hg11 Y14.out)
      clear q3c q3f q13c q13f q14c q14f hg11 w2' w3' w4' w5' HPQ HFT2 Y13 Y14 HS10 HEW10
      go_wp2_with (fail)
      go_loopw [16, 17] (fun bv jv W => ∃ j : Nat, jv = .int .i64 j ∧ j ≤ gn ∧ SmI nu gn L wrg used hs u8 u9 w3 W ∧ SmB nu L hs u9 bv (ixB j (btI gs T.reel.marks k)) W ∧ W.heap[n13]? = some (Obj.cells #[.int .i64 A.frame, .int .i64 A.roll, .int .i64 A.number] 131) ∧ W.heap[n14]? = some (Obj.cells #[.int .i64 B.frame, .int .i64 B.roll, .int .i64 B.number] 131)) (fun _ jv _ => gn - (intOf jv).toNat)
      case atStart => exact ⟨0, rfl, by omega, HS11.out, smB_nil, Y131.out, Y141.out⟩
      case round =>
        clear HS11 Y131 Y141
        obtain ⟨j, rfl, hj, hS, hB, y13, y14⟩ := hrel
        have HS := Lib.hid hS; have HB := Lib.hid hB; have Y13 := Lib.hid y13; have Y14 := Lib.hid y14
        have HJG : Hid ((ixB j (btI gs T.reel.marks k)).length ≤ 200001) := Lib.hid (Nat.le_trans (ixB_len _ _) (by omega))
        clear hS hB
        by_cases hjl : j < gn
        · have hjl2 : j < gs.length := by rw [← HGN.out]; exact hjl
          obtain ⟨b3, off3, hsa, c0, c1, c2, c3⟩ := gp_cells (HGS.out.below (ext_trans HE3.out HS.out.bel)) (i := j) hjl2
          have hbj := HBT.out j
          obtain ⟨x, hx⟩ : ∃ x, x = gpD gs j := ⟨_, rfl⟩
          rw [← hx] at c0 hbj
          dsimp only at hsa
          subst hsa
          have hsu := ixB_succ j (btI gs T.reel.marks k)
          rw [hbj] at hsu
          unfold betw at hsu
          have HSU := Lib.hid hsu
          have g1 : (0 : Int) ≤ (j : Int) := by omega
          have g2 : (j : Int) < (gn : Int) := by omega
          have e1 : decide ((0 : Int) ≤ (j : Int)) = true := decide_eq_true g1
          have e2 : decide ((j : Int) < (gn : Int)) = true := decide_eq_true g2
          have w3' : IntKind.i64.wrap ((j : Int) + 1) = (j : Int) + 1 := IntWalk.i64_in _ (by omega)
          have q13c := cell_blk y13
          have q13f := frz_blk y13
          have q14c := cell_blk y14
          have q14f := frz_blk y14
          clear hx hbj hsu y13 y14 c1 c2 c3 hjl2
          by_cases t1 : A.frame < x.frame
          · have d1 : decide (A.frame < x.frame) = true := decide_eq_true t1
            by_cases t2 : x.frame ≤ B.frame
            · have d2 : decide (x.frame ≤ B.frame) = true := decide_eq_true t2
              have HIX : Hid (ixB (j + 1) (btI gs T.reel.marks k) = ixB j (btI gs T.reel.marks k) ++ [j]) := Lib.hid (by rw [HSU.out, d1, d2]; rfl)
              clear t1 t2 HSU
              go_upto_region 15 with (fail)
              refine region_ev [] [0, 1, 2, 3, 4, 5, 6, 7, 8, 9, 10, 11, 12, 13, 14, 15, 16, 17] [] [] (by kernel_rfl) (by kernel_rfl) (by intro c a d v w h; cases d <;> exact h) ?_
              simp only [picks, List.drop_succ_cons, List.drop_zero]
              repeat (refine wpQ0_step (fun K hK => ?_); go_simp; (refine hK _ ?_; clear hK K))
              refine wpQ0_nil ?_
              repeat ((with_reducible refine wpQ2_step (fun K hK => ?_)); go_simp; first | ((with_reducible refine hK _ ?_); clear hK K) | (apply Exists.intro; refine ⟨fun x => ?_, hK _ ?_⟩; (fail); clear hK K) | (refine ite_undef (fun h => (by have h_ : (none : Option Bool) = some _ := h; cases h_)) ?_; (with_reducible refine hK _ ?_); clear hK K))
              (with_reducible refine wpQ2_nil ?_)
              refine Events.none_ fun w12 hg12 => ?_
              simp only [picks, List.drop_succ_cons, List.drop_zero]
              have HS12 := Lib.hid (HS.out.ext hg12); have HB12 := Lib.hid (HB.out.ext hg12)
              have Y132 := Lib.hid (Ext2.blk hg12 Y13.out); have Y142 := Lib.hid (Ext2.blk hg12 Y14.out)
              clear c0 q13c q13f q14c q14f hg12 HS HB Y13 Y14 e1 e2 g1 g2
              go_wp2_with (at_builtin; go_loud (refine app_one_at [.int .i64 (j : Int)] elInt rfl _ _ rfl (nu + 1) rfl (HB12.out.own.below (below_alloc' _ _)) w12.heap.size 1 rfl (blk_new _ _) (by simp [Value.oneCell']) (by have := HJG.out; omega) (by have := HS12.out.sz; simp; omega) ?_; intro v' w13 hO13 hg13 hp13; (have HSa := Lib.hid (HS12.out.ext (below_alloc' w12 (.cells #[.int .i64 (j : Int)] 3 (0, 0))))); (have HBa := Lib.hid (HB12.out.ext (below_alloc' w12 (.cells #[.int .i64 (j : Int)] 3 (0, 0))))); (have HS13 := Lib.hid (HSa.out.appB HBa.out hg13)); (have HB13 := Lib.hid (HBa.out.app HSa.out hg13 rfl hp13 hO13)); (have Y13 := Lib.hid (own_keep HBa.out.own hg13 (blk_alloc Y132.out _) (by decide))); (have Y14 := Lib.hid (own_keep HBa.out.own hg13 (blk_alloc Y142.out _) (by decide))); clear hO13 hg13 hp13 HSa HBa))
              go_roundw
              case rel => exact ⟨j + 1, by go_num, by omega, HS13.out, by rw [HIX.out]; exact HB13.out, Y13.out, Y14.out⟩
              case measure => simp [intOf]; omega
            · have d2 : decide (x.frame ≤ B.frame) = false := decide_eq_false t2
              have HIX : Hid (ixB (j + 1) (btI gs T.reel.marks k) = ixB j (btI gs T.reel.marks k)) := Lib.hid (by rw [HSU.out, d2, Bool.and_false]; rfl)
              clear t1 HSU
              go_upto_region 15 with (fail)
              refine region_ev [] [0, 1, 2, 3, 4, 5, 6, 7, 8, 9, 10, 11, 12, 13, 14, 15, 16, 17] [] [] (by kernel_rfl) (by kernel_rfl) (by intro c a d v w h; cases d <;> exact h) ?_
              simp only [picks, List.drop_succ_cons, List.drop_zero]
              repeat (refine wpQ0_step (fun K hK => ?_); go_simp; (refine hK _ ?_; clear hK K))
              refine wpQ0_nil ?_
              repeat ((with_reducible refine wpQ2_step (fun K hK => ?_)); go_simp; first | ((with_reducible refine hK _ ?_); clear hK K) | (apply Exists.intro; refine ⟨fun x => ?_, hK _ ?_⟩; (fail); clear hK K) | (refine ite_undef (fun h => (by have h_ : (none : Option Bool) = some _ := h; cases h_)) ?_; (with_reducible refine hK _ ?_); clear hK K))
              (with_reducible refine wpQ2_nil ?_)
              refine Events.none_ fun w12 hg12 => ?_
              simp only [picks, List.drop_succ_cons, List.drop_zero]
              have HS12 := Lib.hid (HS.out.ext hg12); have HB12 := Lib.hid (HB.out.ext hg12)
              have Y132 := Lib.hid (Ext2.blk hg12 Y13.out); have Y142 := Lib.hid (Ext2.blk hg12 Y14.out)
              clear c0 q13c q13f q14c q14f hg12 HS HB Y13 Y14 e1 e2 g1 g2
              go_wp2_with (fail)
              go_roundw
              case rel => exact ⟨j + 1, by go_num, by omega, HS12.out, by rw [HIX.out]; exact HB12.out, Y132.out, Y142.out⟩
              case measure => simp [intOf]; omega
          · have d1 : decide (A.frame < x.frame) = false := decide_eq_false t1
            have HIX : Hid (ixB (j + 1) (btI gs T.reel.marks k) = ixB j (btI gs T.reel.marks k)) := Lib.hid (by rw [HSU.out, d1, Bool.false_and]; rfl)
            clear HSU
            go_upto_region 15 with (fail)
            refine region_ev [] [0, 1, 2, 3, 4, 5, 6, 7, 8, 9, 10, 11, 12, 13, 14, 15, 16, 17] [] [] (by kernel_rfl) (by kernel_rfl) (by intro c a d v w h; cases d <;> exact h) ?_
            simp only [picks, List.drop_succ_cons, List.drop_zero]
            repeat (refine wpQ0_step (fun K hK => ?_); go_simp; (refine hK _ ?_; clear hK K))
            refine wpQ0_nil ?_
            repeat ((with_reducible refine wpQ2_step (fun K hK => ?_)); go_simp; first | ((with_reducible refine hK _ ?_); clear hK K) | (apply Exists.intro; refine ⟨fun x => ?_, hK _ ?_⟩; (fail); clear hK K) | (refine ite_undef (fun h => (by have h_ : (none : Option Bool) = some _ := h; cases h_)) ?_; (with_reducible refine hK _ ?_); clear hK K))
            (with_reducible refine wpQ2_nil ?_)
            refine Events.none_ fun w12 hg12 => ?_
            simp only [picks, List.drop_succ_cons, List.drop_zero]
            have HS12 := Lib.hid (HS.out.ext hg12); have HB12 := Lib.hid (HB.out.ext hg12)
            have Y132 := Lib.hid (Ext2.blk hg12 Y13.out); have Y142 := Lib.hid (Ext2.blk hg12 Y14.out)
            clear c0 q13c q13f q14c q14f hg12 HS HB Y13 Y14 e1 e2 g1 g2
            go_wp2_with (fail)
            go_roundw
            case rel => exact ⟨j + 1, by go_num, by omega, HS12.out, by rw [HIX.out]; exact HB12.out, Y132.out, Y142.out⟩
            case measure => simp [intOf]; omega
        · obtain rfl : gn = j := by omega
          have hgg : ¬ (gn : Int) < (gn : Int) := by omega
          obtain ⟨⟨ba, bc⟩, hbv, hBR⟩ := OwnR.sl HB.out.own
          dsimp only at hbv
          subst hbv
          have hsc3 := HSC3.out
          rw [← HGN.out] at hsc3
          obtain ⟨ix, hix⟩ : ∃ ix, ix = ixB gn (btI gs T.reel.marks k) := ⟨_, rfl⟩
          have hixl := ixB_len gn (btI gs T.reel.marks k); have hixm := ixB_lt (n := gn) (p := btI gs T.reel.marks k)
          rw [← hix] at HB HJG hBR hsc3 hixl hixm ⊢
          have hec := fun (i : Nat) => show ix.contains i = (decide (i < gn) && btI gs T.reel.marks k i) from by
            rw [hix]; unfold ixB
            rw [Bool.eq_iff_iff]
            simp [List.mem_filter, List.mem_range]
          have HEC := Lib.hid hec
          have HE1 := Lib.hid fun W hW (h : IxS W ⟨ba, bc⟩ ix) => HEN.out W hW ix ⟨ba, bc⟩ h hixm (by omega)
          have hbd := HEB.out ix hixm (by omega)
          obtain ⟨E, hE⟩ : ∃ E, E = endsS (ix.map (gpD gs)) := ⟨_, rfl⟩
          rw [← hE] at HE1 hsc3 hbd
          obtain ⟨bn, hbn⟩ : ∃ n, n = ix.length := ⟨_, rfl⟩
          rw [← hbn] at HE1 hixl HJG HB ⊢
          have hBle := hBR.le; have hBmx := hBR.max
          rw [← hbn] at hBle
          dsimp only at HE1 hBle hBmx
          have HBN := Lib.hid hbn; have HSC4 := Lib.hid hsc3; have HIXM := Lib.hid hixm; have HBR := Lib.hid hBR
          have HEW := Lib.hid (ext_trans HE3.out HS.out.bel)
          obtain ⟨iv, hiv⟩ : ∃ v, v = inB nv E.lo E.hi := ⟨_, rfl⟩
          have HIN := inR_b hiv
          have HIV := Lib.hid hiv
          clear hsc3 hixl hixm hbd hE hix hec hBR hiv hbn HSC3 y13 y14
          go_wp2_with (fail)
          (with_reducible refine (HE1.out _ HEW.out HBR.out).mono ?_)
          rintro e w14 ⟨rfl, hE14⟩
          have HS14 := Lib.hid (HS.out.ext hE14); have HB14 := Lib.hid (HB.out.ext hE14); have HBR14 := Lib.hid (HBR.out.below hE14); have HEW14 := Lib.hid (ext_trans HEW.out hE14)
          clear hE14 HS HB HBR HEW Y13 Y14
          go_wp2_with (fail)
          (with_reducible refine (HE1.out _ HEW14.out HBR14.out).mono ?_)
          rintro e w15 ⟨rfl, hE15⟩
          have HS15 := Lib.hid (HS14.out.ext hE15); have HB15 := Lib.hid (HB14.out.ext hE15); have HEW15 := Lib.hid (ext_trans HEW14.out hE15)
          clear hE15 HS14 HB14 HBR14 HEW14 HE1
          go_wp2_with (fail)
          (with_reducible refine (HIN.out _).mono ?_)
          rintro e w16 ⟨rfl, hE16⟩
          have HS16 := Lib.hid (HS15.out.ext hE16); have HB16 := Lib.hid (HB15.out.ext hE16)
          clear hE16 HS15 HB15 HEW15 HIN
          cases iv with
          | false =>
            have HF : Hid (smK foot F N gs T.reel.marks (k + 1) = ⟨L, wrg ++ [(k : Int)], left, used⟩) := Lib.hid (by rw [HSC4.out, if_pos HIV.out.symm])
            have HWL : Hid (wrg.length ≤ 100) := Lib.hid (by have := HLEN.out; omega)
            go_wp2_with (at_builtin; go_loud (refine app_one_at [.int .i64 (k : Int)] elInt rfl _ _ rfl (nu + 1) rfl (HS16.out.wrong.below (below_alloc' _ _)) w16.heap.size 1 rfl (blk_new _ _) (by simp [Value.oneCell']) (by have := HWL.out; omega) (by have := HS16.out.sz; simp; omega) ?_; intro v' w17 hO17 hg17 hp17; (have HSa := Lib.hid (HS16.out.ext (below_alloc' w16 (.cells #[.int .i64 (k : Int)] 3 (0, 0))))); (have HS17 := Lib.hid (HSa.out.appW hg17 rfl hp17 hO17)); clear hO17 hg17 hp17 HSa))
            go_roundw
            case rel => exact ⟨k + 1, hs, by go_num, by omega, .inl (by omega), by rw [HF.out], by rw [HF.out]; exact HS17.out⟩
            case measure => simp [intOf]; omega
          | true =>
            have HF0 : Hid (smK foot F N gs T.reel.marks (k + 1) = ⟨L ++ [(ix, ⟨nv, nv⟩)], wrg, left + nv, fun x => used x || btI gs T.reel.marks k x⟩) := Lib.hid (by rw [HSC4.out, if_neg (by rw [HIV.out.symm]; simp)])
            clear HSC4 HIV
            go_wp2_with (fail)
            go_loopw [18] (fun qv W => ∃ z : Nat, qv = .int .i64 z ∧ z ≤ bn ∧ SmI nu gn L wrg (fun x => used x || (ix.take z).contains x) hs u8 u9 w3 W ∧ SmB nu L hs u9 (.slice ba bn bc) ix W) (fun qv _ => bn - (intOf qv).toNat)
            case atStart => exact ⟨0, rfl, by omega, HS16.out.congrU fun x _ => by simp, HB16.out⟩
            case round =>
              clear HS16 HB16
              obtain ⟨z, rfl, hz, hS, hB⟩ := hrel
              have HS := Lib.hid hS; have HB := Lib.hid hB
              clear hS hB
              by_cases hzl : z < bn
              · have hzl2 : z < ix.length := by rw [← HBN.out]; exact hzl
                obtain ⟨b4, off4, hba, c0⟩ := ix_cell (s := ⟨ba, bc⟩) (by have h := HB.out.own; rw [HBN.out] at h; exact own_row h) hzl2
                have hyl := HIXM.out _ (ix_mem hzl2)
                obtain ⟨y, hy⟩ : ∃ y, y = ix.getD z 0 := ⟨_, rfl⟩
                rw [← hy] at c0 hyl
                dsimp only at hba
                subst hba
                obtain ⟨d0, d1, d2, d3⟩ := HS.out.used.cell1 hyl
                have htk : ∀ x, (ix.take (z + 1)).contains x = ((ix.take z).contains x || decide (x = y)) := fun x => by
                  rw [List.take_succ_eq_append_getElem hzl2, Bool.eq_iff_iff]
                  have : ix[z] = y := by rw [hy, List.getD_eq_getElem?_getD, List.getElem?_eq_getElem hzl2]; rfl
                  rw [this]
                  simp
                have HTK := Lib.hid htk; have HYL := Lib.hid hyl
                have g1 : (0 : Int) ≤ (z : Int) := by omega
                have g2 : (z : Int) < (bn : Int) := by omega
                have g3 : (0 : Int) ≤ (y : Int) := by omega
                have g4 : (y : Int) < (gn : Int) := by omega
                have w3' : IntKind.i64.wrap ((z : Int) + 1) = (z : Int) + 1 := IntWalk.i64_in _ (by omega)
                clear hy htk hyl hzl2
                go_wp2_with (fail)
                go_roundw
                case rel => exact ⟨z + 1, by go_num, by omega, (HS.out.setU HYL.out (u' := fun x => used x || (ix.take (z + 1)).contains x) fun x _ => by
                  simp only [HTK.out x]
                  by_cases h : x = y
                  · simp [h]
                  · simp [h]), HB.out.setU⟩
                case measure => simp [intOf]; omega
              · obtain rfl : bn = z := by omega
                have hbb : ¬ (bn : Int) < (bn : Int) := by omega
                have HS18 : Hid (SmI nu gn L wrg (fun x => used x || btI gs T.reel.marks k x) hs u8 u9 w3 wr) := Lib.hid (HS.out.congrU fun x hx => by
                  simp only [HBN.out, List.take_length, HEC.out x, decide_eq_true hx, Bool.true_and])
                have HF : Hid (smK foot F N gs T.reel.marks (k + 1) = ⟨L ++ [(ix, ⟨nv, nv⟩)], wrg, left + nv, fun x => used x || btI gs T.reel.marks k x⟩) := HF0
                have HLL : Hid (L.length ≤ 100) := Lib.hid (by have := HLEN.out; omega)
                have hl1 := HLFB.out; have hl2 := HMIV.out
                have w6' : IntKind.i64.wrap (left + nv) = left + nv := IntWalk.i64_in _ (by omega)
                clear hl1 hl2 HS HF0
                go_wp2_with (at_builtin; go_loud (refine app_one_at [.slice ba bn bc, .int .i64 nv, .int .i64 nv] elSum rfl _ _ rfl (nu + 1) rfl (HS18.out.all.below (below_alloc' _ _)) wr.heap.size 1 rfl (blk_new _ _) (by simp [Value.oneCell']) (by have := HLL.out; omega) (by have := HS18.out.sz; simp; omega) ?_; intro v' w17 hO17 hg17 _; (have HSa := Lib.hid (HS18.out.ext (below_alloc' wr (.cells #[.slice ba bn bc, .int .i64 nv, .int .i64 nv] 114 (0, 0))))); (have HBa := Lib.hid (HB.out.ext (below_alloc' wr (.cells #[.slice ba bn bc, .int .i64 nv, .int .i64 nv] 114 (0, 0))))); (have HS17 := Lib.hid (HSa.out.appA (s := ⟨ba, bc⟩) (x := (ix, ⟨nv, nv⟩)) HBN.out HBa.out hg17 rfl hO17)); clear hO17 hg17 HSa HBa))
                have HS19 : Hid (SmI nu gn (smK foot F N gs T.reel.marks (k + 1)).all (smK foot F N gs T.reel.marks (k + 1)).wrong (smK foot F N gs T.reel.marks (k + 1)).used (updS hs L.length ⟨ba, bc⟩) v' u9 w3 w17) := Lib.hid (by rw [HF.out]; exact HS17.out)
                go_roundw
                case rel => exact ⟨k + 1, updS hs L.length ⟨ba, bc⟩, by go_num, by omega, .inl (by omega), by rw [HF.out], HS19.out⟩
                case measure => simp [intOf]; omega
    · have hfin : (⟨L, wrg, left, used⟩ : Sms) = smK foot F N gs T.reel.marks T.reel.marks.length := by
        rw [HST.out]
        rcases hk with hk | hk
        · rw [show k = T.reel.marks.length by omega]
        · subst hk
          rcases Nat.eq_zero_or_pos T.reel.marks.length with h0 | h0
          · rw [h0, smK_one]; rfl
          · rw [show T.reel.marks.length = 1 by omega]
      have HFIN : Hid (R = (L ++ [(ixB gn fun x => !used x, ⟨T.whole.lo - left, T.whole.hi - left⟩)], wrg)) := Lib.hid (by rw [HR.out]; unfold sumsV; rw [← hfin, ← HGN.out])
      have hl1 : -60000000 ≤ left ∧ left ≤ 61000000 := by
        have h := HLF.out T.reel.marks.length (Nat.le_refl _)
        rw [← hfin] at h
        dsimp only at h; omega
      have hl2 : L.length ≤ 100 := by
        have h := HLN.out T.reel.marks.length
        rw [← hfin] at h
        dsimp only at h; omega
      have HL1 := Lib.hid hl1; have HL2 := Lib.hid hl2
      have hkm : ¬ (k : Int) < (T.reel.marks.length : Int) := by omega
      clear hfin hl1 hl2
      go_wp2_with (fail)
      clear q3c q3f
      go_loopw [19, 20] (fun rv jv W => ∃ j : Nat, jv = .int .i64 j ∧ j ≤ gn ∧ SmI nu gn L wrg used hs u8 u9 w3 W ∧ SmB nu L hs u9 rv (ixB j fun x => !used x) W) (fun _ jv _ => gn - (intOf jv).toNat)
      case atStart => exact ⟨0, rfl, by omega, HS.out, smB_nil⟩
      case round =>
        clear HS
        obtain ⟨j, rfl, hj, hS, hB⟩ := hrel
        have HS := Lib.hid hS; have HB := Lib.hid hB
        have HJG : Hid ((ixB j fun x => !used x).length ≤ 200001) := Lib.hid (Nat.le_trans (ixB_len _ _) (by omega))
        by_cases hjl : j < gn
        · obtain ⟨d0, d1, d2, d3⟩ := HS.out.used.cell1 hjl
          have hsu := ixB_succ j (fun x => !used x)
          obtain ⟨uj, huj⟩ : ∃ b, b = used j := ⟨_, rfl⟩
          rw [← huj] at d0 hsu
          have HSU := Lib.hid hsu
          have g1 : (0 : Int) ≤ (j : Int) := by omega
          have g2 : (j : Int) < (gn : Int) := by omega
          have w3' : IntKind.i64.wrap ((j : Int) + 1) = (j : Int) + 1 := IntWalk.i64_in _ (by omega)
          clear hS hB hsu huj
          cases uj with
          | true =>
            have HIX : Hid (ixB (j + 1) (fun x => !used x) = ixB j fun x => !used x) := Lib.hid (by rw [HSU.out]; rfl)
            go_wp2_with (fail)
            go_roundw
            case rel => exact ⟨j + 1, by go_num, by omega, HS.out, by rw [HIX.out]; exact HB.out⟩
            case measure => simp [intOf]; omega
          | false =>
            have HIX : Hid (ixB (j + 1) (fun x => !used x) = (ixB j fun x => !used x) ++ [j]) := Lib.hid (by rw [HSU.out]; rfl)
            clear HSU
            go_wp2_with (at_builtin; go_loud (refine app_one_at [.int .i64 (j : Int)] elInt rfl _ _ rfl (nu + 1) rfl (HB.out.own.below (below_alloc' _ _)) wr.heap.size 1 rfl (blk_new _ _) (by simp [Value.oneCell']) (by have := HJG.out; omega) (by have := HS.out.sz; simp; omega) ?_; intro v' w13 hO13 hg13 hp13; (have HSa := Lib.hid (HS.out.ext (below_alloc' wr (.cells #[.int .i64 (j : Int)] 3 (0, 0))))); (have HBa := Lib.hid (HB.out.ext (below_alloc' wr (.cells #[.int .i64 (j : Int)] 3 (0, 0))))); (have HS13 := Lib.hid (HSa.out.appB HBa.out hg13)); (have HB13 := Lib.hid (HBa.out.app HSa.out hg13 rfl hp13 hO13)); skip; clear hO13 hg13 hp13 HSa HBa))
            go_roundw
            case rel => exact ⟨j + 1, by go_num, by omega, HS13.out, by rw [HIX.out]; exact HB13.out⟩
            case measure => simp [intOf]; omega
        · obtain rfl : gn = j := by omega
          have hgg : ¬ (gn : Int) < (gn : Int) := by omega
          obtain ⟨⟨ba, bc⟩, hbv, hBR⟩ := OwnR.sl HB.out.own
          obtain ⟨⟨wa, wc⟩, hwv, hWR⟩ := OwnR.sl HS.out.wrong
          dsimp only at hbv hwv
          subst hbv
          subst hwv
          obtain ⟨ix, hix⟩ : ∃ ix, ix = ixB gn fun x => !used x := ⟨_, rfl⟩
          have hfin := HFIN.out
          rw [← hix] at HB HJG hfin ⊢
          obtain ⟨bn, hbn⟩ : ∃ n, n = ix.length := ⟨_, rfl⟩
          rw [← hbn] at HJG HB ⊢
          obtain ⟨wn, hwn⟩ : ∃ n, n = wrg.length := ⟨_, rfl⟩
          rw [← hwn] at HS HB ⊢
          have HBN := Lib.hid hbn; have HWN := Lib.hid hwn; have HFIN2 := Lib.hid hfin
          have x3 := Ext2.blk HS.out.bel X3.out
          have hl1 := HL1.out; have hwh := HWH.out
          have w3' : IntKind.i64.wrap (T.whole.lo - left) = T.whole.lo - left := IntWalk.i64_in _ (by omega)
          have w4' : IntKind.i64.wrap (T.whole.hi - left) = T.whole.hi - left := IntWalk.i64_in _ (by omega)
          have q3c := cell_blk x3
          have q3f := frz_blk x3
          clear hS hB x3 hix hbn hwn hfin hBR hWR hl1 hwh HFIN
          go_wp2_with (at_builtin; go_loud (refine app_one_at [.slice ba bn bc, .int .i64 (T.whole.lo - left), .int .i64 (T.whole.hi - left)] elSum rfl _ _ rfl (nu + 1) rfl (HS.out.all.below (below_alloc' _ _)) wr.heap.size 1 rfl (blk_new _ _) (by simp [Value.oneCell']) (by have := HL2.out; omega) (by have := HS.out.sz; simp; omega) ?_; intro v' w17 hO17 hg17 _; (have HSa := Lib.hid (HS.out.ext (below_alloc' wr (.cells #[.slice ba bn bc, .int .i64 (T.whole.lo - left), .int .i64 (T.whole.hi - left)] 114 (0, 0))))); (have HBa := Lib.hid (HB.out.ext (below_alloc' wr (.cells #[.slice ba bn bc, .int .i64 (T.whole.lo - left), .int .i64 (T.whole.hi - left)] 114 (0, 0))))); (have hs17 := HSa.out.appA (s := ⟨ba, bc⟩) (x := (ix, ⟨T.whole.lo - left, T.whole.hi - left⟩)) HBN.out HBa.out hg17 rfl hO17); (obtain ⟨⟨za, zc⟩, hzv, hzr⟩ := OwnR.sl hs17.all); (obtain ⟨zn, hzn⟩ : ∃ n, n = (L ++ [(ix, (⟨T.whole.lo - left, T.whole.hi - left⟩ : Span))]).length := ⟨_, rfl⟩); rw [← hzn] at hzv; subst hzv; (have HS17 := Lib.hid hs17); (have HZN := Lib.hid hzn); clear hO17 hg17 HSa HBa hs17 hzr hzn))
          go_ret2
          refine ⟨⟨⟨za, zc⟩, ⟨wa, wc⟩, _, by rw [HFIN2.out, HWN.out, HZN.out]; rfl, by rw [HFIN2.out]; have h := HS17.out; rw [HZN.out] at h; exact SmI.view h, ?_⟩, ext_trans HE3.out HS17.out.bel⟩
          rw [HFIN2.out]
          have h := HS17.out.wrong
          rw [HWN.out] at h
          exact own_row h
end Go.Proofs.YtojomdojblgegaaGreatDoor
