/-
  Plain: the search deeper and deeper finds the way that stands first among the best of all ways.
  Plain: the search of Path, room by room.
  wait: for how many hours a can has to stay.
-/
import Derived.Test.YtfpaihjcbpaneaaGreatDoorVPlA
import Derived.Test.YtfpaihjcbpaneaaGreatDoorVAirA
namespace Go.Proofs.YtfpaihjcbpaneaaGreatDoor.D
set_option linter.unusedVariables false
set_option linter.unusedSimpArgs false
theorem natD_app {L E : List Nat} {i : Nat} (h : i < L.length) : natD (L ++ E) i = natD L i := by
  unfold natD; rw [List.getD_eq_getElem?_getD, List.getD_eq_getElem?_getD, List.getElem?_append_left h]
theorem natD_new (L : List Nat) (x : Nat) : natD (L ++ [x]) L.length = x := by unfold natD; simp
theorem anyF_iff {p : Nat → Bool} : ∀ {n : Nat}, anyF p n = true ↔ ∃ i, i < n ∧ p i = true
  | 0 => by simp [anyF]
  | n + 1 => by
    rw [anyF_succ, Bool.or_eq_true, anyF_iff (n := n)]
    constructor
    · rintro (⟨i, h1, h2⟩ | h)
      · exact ⟨i, by omega, h2⟩
      · exact ⟨n, by omega, h⟩
    · rintro ⟨i, h1, h2⟩
      rcases Nat.lt_or_ge i n with h | h
      · exact .inl ⟨i, h, h2⟩
      · obtain rfl : i = n := by omega
        exact .inr h2
theorem dup_app {L E : List Nat} {i : Nat} (h : i < L.length) : dupB (L ++ E) i = dupB L i := by
  unfold dupB
  exact anyF_congr fun k hk => by rw [natD_app (by omega), natD_app h]
theorem wayG_app {S : Site} {base : Int} {t : Span} {L E : List Nat} : ∀ {k : Nat}, k + 1 ≤ L.length → wayG S base t (L ++ E) k = wayG S base t L k
  | 0, _ => rfl
  | k + 1, h => by
    rw [wayG, wayG, wayG_app (by omega), natD_app (by omega), natD_app (by omega), dup_app (by omega)]
    have e1 : (k + 1 < (L ++ E).length) = True := by simp; omega
    have e2 : (k + 1 < L.length) = True := by simp; omega
    simp only [e1, e2]
theorem wayG_none {S : Site} {base : Int} {t : Span} {L : List Nat} {k : Nat} (h : wayG S base t L k = none) : ∀ {m : Nat}, k ≤ m → wayG S base t L m = none
  | 0, hm => by obtain rfl : k = 0 := by omega
                exact h
  | m + 1, hm => by
    rcases Nat.lt_or_ge m k with h1 | h1
    · obtain rfl : k = m + 1 := by omega
      exact h
    · rw [wayG, wayG_none h h1]
theorem wayG_ge {S : Site} {base : Int} {t : Span} {L : List Nat} {k : Nat} {st : List Sty} {hr : Int} {u : Span} (h : wayG S base t L k = some (st, hr, u)) : ∀ {m : Nat}, k ≤ m → ∀ st' hr' u', wayG S base t L m = some (st', hr', u') → hr ≤ hr'
  | 0, hm, st', hr', u', h' => by
    obtain rfl : k = 0 := by omega
    rw [h] at h'; cases h'; exact Int.le_refl _
  | m + 1, hm, st', hr', u', h' => by
    rcases Nat.lt_or_ge m k with h1 | h1
    · obtain rfl : k = m + 1 := by omega
      rw [h] at h'; cases h'; exact Int.le_refl _
    · rw [wayG] at h'
      cases hg : wayG S base t L m with
      | none => rw [hg] at h'; cases h'
      | some x =>
        obtain ⟨a, b, c⟩ := x
        rw [hg] at h'
        have ih := wayG_ge h h1 a b c hg
        simp only at h'
        split at h'
        · cases h'
        · split at h'
          · cases h'
          · split at h'
            · split at h'
              · cases h'
              · cases h'; omega
            · cases h'; omega
def nextB (n to : Nat) (b : List (List Nat)) : List (List Nat) := (b.filter fun l => !endsB to l).flatMap (exts n)
/-- All lists of just m rooms more that begin like a list. -/
def desc (n to : Nat) : Nat → List Nat → List (List Nat)
  | 0, l => [l]
  | m + 1, l => if endsB to l then [] else (exts n l).flatMap (desc n to m)
def levB (n to : Nat) : Nat → List (List Nat) → List (List Nat)
  | 0, b => b
  | m + 1, b => levB n to m (nextB n to b)
theorem flatMap_filter {α β : Type} (p : α → Bool) (f : α → List β) : ∀ l : List α, (l.filter p).flatMap f = l.flatMap fun x => if p x then f x else []
  | [] => rfl
  | x :: l => by
    rw [List.filter_cons, List.flatMap_cons, ← flatMap_filter p f l]
    split <;> simp
theorem levB_desc (n to : Nat) : ∀ (m : Nat) (b : List (List Nat)), levB n to m b = b.flatMap (desc n to m)
  | 0, b => by
    rw [levB]
    induction b with
    | nil => rfl
    | cons x b ih => rw [List.flatMap_cons, ← ih]; rfl
  | m + 1, b => by
    rw [levB, levB_desc n to m, nextB, List.flatMap_assoc, flatMap_filter]
    congr 1
    funext x
    rw [desc]
    cases endsB to x <;> rfl
theorem waysV_eq (n to m : Nat) (b : List (List Nat)) : waysV n to (m + 1) b = b.filter (endsB to) ++ waysV n to m (nextB n to b) := rfl
theorem desc_form (n to : Nat) : ∀ (m : Nat) (L x : List Nat), x ∈ desc n to m L → ∃ E, x = L ++ E ∧ E.length = m
  | 0, L, x, h => ⟨[], by simpa [desc] using h, rfl⟩
  | m + 1, L, x, h => by
    rw [desc] at h
    split at h
    · cases h
    · obtain ⟨y, hy, hx⟩ := List.mem_flatMap.1 h
      obtain ⟨r, -, rfl⟩ := List.mem_map.1 hy
      obtain ⟨E, rfl, hE⟩ := desc_form n to m _ x hx
      exact ⟨r :: E, by simp, by simp [hE]⟩
theorem fold_same {α β : Type} {f : β → α → β} {b : β} : ∀ {l : List α}, (∀ x ∈ l, f b x = b) → l.foldl f b = b
  | [], _ => rfl
  | x :: l, h => by rw [List.foldl_cons, h x List.mem_cons_self, fold_same fun y hy => h y (List.mem_cons_of_mem _ hy)]
theorem better_none {st : Int × List Sty} : better st none = st := rfl
theorem better_ge {st : Int × List Sty} {l : List Sty} {h : Int} (h0 : 0 ≤ st.1) (h1 : st.1 ≤ h) : better st (some (l, h)) = st := by
  unfold better; simp only; rw [if_neg (by omega)]
def costs (S : Site) (base : Int) (t0 : Span) (n to m : Nat) (L : List Nat) : List (Option (List Sty × Int)) := ((desc n to m L).filter (endsB to)).map (wayV S base t0)
theorem wayV_of {S : Site} {base : Int} {t0 : Span} {L : List Nat} {k : Nat} {st : List Sty} {hr : Int} {u : Span} (h : wayG S base t0 L k = some (st, hr, u)) (hk : k ≤ L.length) :
    wayV S base t0 L = none ∨ ∃ l h', wayV S base t0 L = some (l, h') ∧ hr ≤ h' := by
  unfold wayV
  split
  · exact .inl rfl
  · cases hg : wayG S base t0 L L.length with
    | none => exact .inl rfl
    | some x =>
      obtain ⟨a, b, c⟩ := x
      exact .inr ⟨a, b, rfl, wayG_ge h hk a b c hg⟩
theorem prune {S : Site} {base : Int} {t0 : Span} {n to m k : Nat} {L : List Nat} {now : List Sty} {sum : Int} {t : Span} {st : Int × List Sty} (hL : k + 1 = L.length) (hg : wayG S base t0 L k = some (now, sum, t)) (h0 : 0 ≤ st.1) (h1 : st.1 ≤ sum) :
    (costs S base t0 n to m L).foldl better st = st := by
  refine fold_same fun w hw => ?_
  obtain ⟨x, hx, rfl⟩ := List.mem_map.1 hw
  obtain ⟨E, rfl, -⟩ := desc_form n to m L x (List.mem_filter.1 hx).1
  rcases wayV_of (S := S) (base := base) (t0 := t0) (L := L ++ E) (k := k) (by rw [wayG_app (by omega)]; exact hg) (by simp; omega) with h | ⟨l, h', h, hh⟩
  · rw [h]; rfl
  · rw [h]; exact better_ge h0 (by omega)
theorem dead {S : Site} {base : Int} {t0 : Span} {n to m k : Nat} {L : List Nat} {st : Int × List Sty} (hk : k ≤ L.length) (hg : ∀ E, wayG S base t0 (L ++ E) k = none) : (costs S base t0 n to m L).foldl better st = st := by
  refine fold_same fun w hw => ?_
  obtain ⟨x, hx, rfl⟩ := List.mem_map.1 hw
  obtain ⟨E, rfl, -⟩ := desc_form n to m L x (List.mem_filter.1 hx).1
  have : wayV S base t0 (L ++ E) = none := by
    unfold wayV
    split
    · rfl
    · rw [wayG_none (hg E) (by simp; omega)]; rfl
  rw [this]; rfl
theorem costs_flat {S : Site} {base : Int} {t0 : Span} {n to m : Nat} (l : List (List Nat)) : ((l.flatMap (desc n to m)).filter (endsB to)).map (wayV S base t0) = l.flatMap (costs S base t0 n to m) := by
  induction l with
  | nil => rfl
  | cons x l ih => rw [List.flatMap_cons, List.filter_append, List.map_append, ih, List.flatMap_cons]; rfl
theorem foldl_flatMap' {α β γ : Type} (f : γ → β → γ) (g : α → List β) : ∀ (l : List α) (c : γ), (l.flatMap g).foldl f c = l.foldl (fun c x => (g x).foldl f c) c
  | [], _ => rfl
  | x :: l, c => by rw [List.flatMap_cons, List.foldl_append, List.foldl_cons, foldl_flatMap' f g l]
theorem foldl_filter_map {α β γ : Type} (p : α → Bool) (g : α → β) (f : γ → β → γ) : ∀ (l : List α) (c : γ), ((l.filter p).map g).foldl f c = l.foldl (fun c x => if p x then f c (g x) else c) c
  | [], _ => rfl
  | x :: l, c => by
    rw [List.filter_cons, List.foldl_cons]
    cases p x
    · simpa using foldl_filter_map p g f l c
    · simpa using foldl_filter_map p g f l (f c (g x))
theorem foldl_congr' {α γ : Type} {f g : γ → α → γ} : ∀ {l : List α} {c : γ}, (∀ c x, x ∈ l → f c x = g c x) → l.foldl f c = l.foldl g c
  | [], _, _ => rfl
  | x :: l, c, h => by rw [List.foldl_cons, List.foldl_cons, h c x List.mem_cons_self, foldl_congr' fun c y hy => h c y (List.mem_cons_of_mem _ hy)]
/-- What is known of a list of rooms that was walked so far. -/
structure Pre (S : Site) (base : Int) (t0 : Span) (L been : List Nat) (now : List Sty) (t : Span) (room : Nat) (sum : Int) (k : Nat) : Prop where
  len : k + 1 = L.length
  last : natD L k = room
  been : ∀ x, (room :: been).contains x = L.contains x
  dup : dupB L k = false
  bar : (decide (0 < k) && barred S base room) = false
  way : wayG S base t0 L k = some (now, sum, t)
theorem contains_dup {L : List Nat} {x : Nat} (h : L.contains x = false) : dupB (L ++ [x]) L.length = false := by
  unfold dupB
  rw [natD_new]
  cases hd : anyF (fun k => decide (natD (L ++ [x]) k = x)) L.length
  · rfl
  · obtain ⟨i, hi, he⟩ := anyF_iff.1 hd
    have he := of_decide_eq_true he
    rw [natD_app hi] at he
    have : x ∈ L := by rw [← he]; unfold natD; rw [List.getD_eq_getElem?_getD, List.getElem?_eq_getElem hi]; exact List.getElem_mem _
    rw [List.contains_eq_mem, decide_eq_true this] at h; cases h
theorem Pre.step {S : Site} {base : Int} {t0 : Span} {L been : List Nat} {now : List Sty} {t : Span} {room : Nat} {sum : Int} {k nx : Nat} (h : Pre S base t0 L been now t room sum k) (E : List Nat) :
    wayG S base t0 (L ++ [nx] ++ E) (k + 1) = match waitV S room nx t with
        | none => none
        | some (n, u) => some (now ++ [⟨(room : Int), (n : Int)⟩], sum + n, u) := by
  have hl := h.len
  have e0 : L ++ [nx] ++ E = L ++ ([nx] ++ E) := List.append_assoc _ _ _
  have e1 : natD (L ++ [nx] ++ E) k = room := by rw [e0, natD_app (by omega)]; exact h.last
  have e2 : natD (L ++ [nx] ++ E) (k + 1) = nx := by rw [natD_app (by simp; omega)]; have := natD_new L nx; rwa [← h.len] at this
  have e3 : dupB (L ++ [nx] ++ E) k = false := by rw [e0, dup_app (by omega)]; exact h.dup
  rw [wayG]
  have e4 : wayG S base t0 (L ++ [nx] ++ E) k = some (now, sum, t) := by rw [e0, wayG_app (by omega)]; exact h.way
  rw [e4]
  simp only
  rw [e3, e1, e2, h.bar]
  simp only [Bool.false_eq_true, if_false]
  rw [if_pos (by simp; omega)]
  cases waitV S room nx t <;> rfl
theorem srch_costs {S : Site} {base : Int} {t0 : Span} {to : Nat} : ∀ (m : Nat) {L been : List Nat} {now : List Sty} {t : Span} {room : Nat} {sum : Int} {k : Nat} (st : Int × List Sty),
    Pre S base t0 L been now t room sum k → L.length + m ≤ 5 → (costs S base t0 S.rooms.length to m L).foldl better st = srch S base to m been now t room sum st
  | 0, L, been, now, t, room, sum, k, st, hP, hm => by
    have hl := hP.len
    rw [srch]
    by_cases hp : 0 ≤ st.1 ∧ st.1 ≤ sum
    · rw [if_pos hp]; exact prune hP.len hP.way hp.1 hp.2
    · rw [if_neg hp]
      have he : endsB to L = decide (room = to) := by unfold endsB; rw [show L.length - 1 = k by omega, hP.last]
      unfold costs
      rw [desc]
      by_cases hr : room = to
      · rw [if_pos hr]
        rw [List.filter_cons, he, decide_eq_true hr]
        simp only [if_true, List.filter_nil, List.map_cons, List.map_nil, List.foldl_cons, List.foldl_nil]
        have hw : wayV S base t0 L = some (now ++ [⟨(to : Int), 0⟩], sum) := by
          unfold wayV
          rw [if_neg (by omega), ← hP.len, wayG, hP.way]
          simp only
          rw [hP.dup, hP.last, hP.bar, if_neg (by omega : ¬ k + 1 < L.length), hr]
          rfl
        rw [hw]
        unfold better
        simp only
        rw [if_pos (by omega)]
      · rw [if_neg hr, List.filter_cons, he, decide_eq_false hr]
        rfl
  | m + 1, L, been, now, t, room, sum, k, st, hP, hm => by
    have hl := hP.len
    rw [srch]
    by_cases hp : 0 ≤ st.1 ∧ st.1 ≤ sum
    · rw [if_pos hp]; exact prune hP.len hP.way hp.1 hp.2
    · rw [if_neg hp]
      have he : endsB to L = decide (room = to) := by unfold endsB; rw [show L.length - 1 = k by omega, hP.last]
      by_cases hr : room = to
      · rw [if_pos hr]
        unfold costs
        rw [desc, he, decide_eq_true hr]; rfl
      · rw [if_neg hr]
        unfold costs
        rw [desc, he, decide_eq_false hr]
        simp only [Bool.false_eq_true, if_false]
        rw [costs_flat, foldl_flatMap']
        unfold exts
        rw [foldl_filter_map]
        refine foldl_congr' fun c nx _ => ?_
        rw [hP.been]
        cases hc : L.contains nx
        case true => simp
        case false =>
          simp only [Bool.not_false, if_true, Bool.false_or]
          have hs := fun E => hP.step (nx := nx) E
          have hs0 := hs []
          rw [List.append_nil] at hs0
          cases hb : barred S base nx
          case true =>
            simp only [if_true]
            refine dead (k := k + 2) (by simp; omega) fun E => ?_
            rw [wayG, hs E]
            cases waitV S room nx t with
            | none => rfl
            | some x =>
              obtain ⟨n, u⟩ := x
              simp only
              have e2 : natD (L ++ [nx] ++ E) (k + 1) = nx := by rw [natD_app (by simp; omega)]; have := natD_new L nx; rwa [← hP.len] at this
              rw [e2, hb]
              simp
          case false =>
            simp only [Bool.false_eq_true, if_false]
            cases hw : waitV S room nx t with
            | none =>
              refine dead (k := k + 1) (by simp; omega) fun E => ?_
              rw [hs E, hw]
            | some x =>
              obtain ⟨n, u⟩ := x
              simp only
              rw [hw] at hs0
              have hx : L.length = k + 1 := hP.len.symm
              refine srch_costs m c (k := k + 1) ⟨by simp; omega, by rw [← hx]; exact natD_new L nx, fun x => ?_, by rw [← hx]; exact contains_dup hc, by rw [hb]; simp, hs0⟩ (by simp; omega)
              rw [List.contains_cons, hP.been x, List.contains_eq_mem, List.contains_eq_mem, Bool.or_comm]
              simp only [List.mem_append, List.mem_singleton, Bool.decide_or]
              congr 1
theorem best_same (S : Site) (base : Int) (t : Span) (fr to : Nat) : bestR S base t fr to = bestP S base t fr to := by
  have hP : Pre S base t [fr] [] [] t fr 0 0 := ⟨rfl, rfl, fun x => rfl, rfl, rfl, rfl⟩
  have key : ∀ (m : Nat) (st : Int × List Sty), m < 5 → (((levB S.rooms.length to m [[fr]]).filter (endsB to)).map (wayV S base t)).foldl better st = srch S base to m [] [] t fr 0 st := fun m st hm => by
    rw [levB_desc, costs_flat]
    simp only [List.flatMap_cons, List.flatMap_nil, List.append_nil]
    exact srch_costs m st hP (by simp; omega)
  unfold bestR bestP
  have hw : waysV S.rooms.length to 5 [[fr]] = (levB S.rooms.length to 0 [[fr]]).filter (endsB to) ++ ((levB S.rooms.length to 1 [[fr]]).filter (endsB to) ++ ((levB S.rooms.length to 2 [[fr]]).filter (endsB to) ++ ((levB S.rooms.length to 3 [[fr]]).filter (endsB to) ++ ((levB S.rooms.length to 4 [[fr]]).filter (endsB to) ++ [])))) := rfl
  rw [hw]
  simp only [List.map_append, List.foldl_append, List.append_nil]
  rw [key 0 _ (by omega), key 1 _ (by omega), key 2 _ (by omega), key 3 _ (by omega), key 4 _ (by omega)]
  rfl
end Go.Proofs.YtfpaihjcbpaneaaGreatDoor.D
namespace Go.Proofs.YtfpaihjcbpaneaaGreatDoor.D
set_option linter.unusedVariables false
/-- One room in the loop of the search. -/
def srStep (S : Site) (base : Int) (to m : Nat) (been : List Nat) (now : List Sty) (t : Span) (room : Nat) (sum : Int) (st : Int × List Sty) (nx : Nat) : Int × List Sty :=
  if ((room :: been).contains nx || barred S base nx) = true then st
  else match waitV S room nx t with
    | none => st
    | some (n, u) => srch S base to m (room :: been) (now ++ [⟨(room : Int), (n : Int)⟩]) u nx (sum + n) st
def srK (S : Site) (base : Int) (to m : Nat) (been : List Nat) (now : List Sty) (t : Span) (room : Nat) (sum : Int) (st : Int × List Sty) (k : Nat) : Int × List Sty :=
  (List.range k).foldl (srStep S base to m been now t room sum) st
theorem srK_zero {S : Site} {base : Int} {to m : Nat} {been : List Nat} {now : List Sty} {t : Span} {room : Nat} {sum : Int} {st : Int × List Sty} : srK S base to m been now t room sum st 0 = st := rfl
theorem srK_succ {S : Site} {base : Int} {to m : Nat} {been : List Nat} {now : List Sty} {t : Span} {room : Nat} {sum : Int} {st : Int × List Sty} {k : Nat} :
    srK S base to m been now t room sum st (k + 1) = srStep S base to m been now t room sum (srK S base to m been now t room sum st k) k := by
  unfold srK; rw [List.range_succ, List.foldl_append]; rfl
theorem srch_pruned {S : Site} {base : Int} {to m : Nat} {been : List Nat} {now : List Sty} {t : Span} {room : Nat} {sum : Int} {st : Int × List Sty} (h : 0 ≤ st.1 ∧ st.1 ≤ sum) : srch S base to m been now t room sum st = st := by
  cases m <;> rw [srch, if_pos h]
theorem srch_end {S : Site} {base : Int} {to : Nat} {been : List Nat} {now : List Sty} {t : Span} {room : Nat} {sum : Int} {st : Int × List Sty} (h : ¬ (0 ≤ st.1 ∧ st.1 ≤ sum)) : srch S base to 0 been now t room sum st = if room = to then (sum, now ++ [⟨(to : Int), 0⟩]) else st := by
  rw [srch, if_neg h]
theorem srch_there {S : Site} {base : Int} {to m : Nat} {been : List Nat} {now : List Sty} {t : Span} {room : Nat} {sum : Int} {st : Int × List Sty} (h : ¬ (0 ≤ st.1 ∧ st.1 ≤ sum)) (hr : room = to) : srch S base to (m + 1) been now t room sum st = st := by
  rw [srch, if_neg h, if_pos hr]
theorem srch_on {S : Site} {base : Int} {to m : Nat} {been : List Nat} {now : List Sty} {t : Span} {room : Nat} {sum : Int} {st : Int × List Sty} (h : ¬ (0 ≤ st.1 ∧ st.1 ≤ sum)) (hr : room ≠ to) : srch S base to (m + 1) been now t room sum st = srK S base to m been now t room sum st S.rooms.length := by
  rw [srch, if_neg h, if_neg hr]; rfl
theorem srStep_skip {S : Site} {base : Int} {to m : Nat} {been : List Nat} {now : List Sty} {t : Span} {room : Nat} {sum : Int} {st : Int × List Sty} {nx : Nat} (h : ((room :: been).contains nx || barred S base nx) = true) : srStep S base to m been now t room sum st nx = st := by
  unfold srStep; rw [if_pos h]
theorem srStep_none {S : Site} {base : Int} {to m : Nat} {been : List Nat} {now : List Sty} {t : Span} {room : Nat} {sum : Int} {st : Int × List Sty} {nx : Nat} (h : waitV S room nx t = none) : srStep S base to m been now t room sum st nx = st := by
  unfold srStep; rw [h]; split <;> rfl
theorem srStep_some {S : Site} {base : Int} {to m : Nat} {been : List Nat} {now : List Sty} {t : Span} {room : Nat} {sum : Int} {st : Int × List Sty} {nx n : Nat} {u : Span} (h : ((room :: been).contains nx || barred S base nx) = false) (hw : waitV S room nx t = some (n, u)) :
    srStep S base to m been now t room sum st nx = srch S base to m (room :: been) (now ++ [⟨(room : Int), (n : Int)⟩]) u nx (sum + n) st := by
  unfold srStep; rw [h, hw]; rfl
/-- The state of the search: what a best way may be. -/
def StOk (st : Int × List Sty) : Prop := -1 ≤ st.1 ∧ st.1 ≤ 5000 ∧ st.2.length ≤ 6
theorem wait_le {S : Site} {r nx : Nat} {t u : Span} {n : Nat} (h : waitV S r nx t = some (n, u)) : n ≤ 500 := by
  have key : ∀ {r nx : Rm} (f n0 : Nat) {t : Span} {m : Nat} {u : Span}, waitF S r nx f n0 t = some (m, u) → m < n0 + f := by
    intro r nx f
    induction f with
    | zero => intro n0 t m u h; simp [waitF] at h
    | succ f ih =>
      intro n0 t m u h
      rw [waitF] at h
      split at h
      · have := ih _ h; omega
      · simp at h; omega
  have := key 501 0 h
  omega
theorem srch_ok {S : Site} {base : Int} {to : Nat} : ∀ {m : Nat} {been : List Nat} {now : List Sty} {t : Span} {room : Nat} {sum : Int} {st : Int × List Sty}, StOk st → 0 ≤ sum → sum + 500 * m ≤ 5000 → now.length + m ≤ 5 → StOk (srch S base to m been now t room sum st)
  | 0, been, now, t, room, sum, st, hs, h0, h1, h2 => by
    rw [srch]
    split
    · exact hs
    · split
      · exact ⟨by show -1 ≤ sum; omega, by show sum ≤ 5000; omega, by simp; omega⟩
      · exact hs
  | m + 1, been, now, t, room, sum, st, hs, h0, h1, h2 => by
    by_cases h : 0 ≤ st.1 ∧ st.1 ≤ sum
    · rw [srch_pruned h]; exact hs
    by_cases hr : room = to
    · rw [srch_there h hr]; exact hs
    rw [srch_on h hr]
    have : ∀ k, StOk (srK S base to m been now t room sum st k) := fun k => by
      induction k with
      | zero => exact hs
      | succ k ih =>
        rw [srK_succ]
        unfold srStep
        split
        · exact ih
        · split
          · exact ih
          · rename_i n u hw
            have hn : n ≤ 500 := wait_le hw
            exact srch_ok ih (by omega) (by omega) (by simp; omega)
    exact this _
theorem srK_ok {S : Site} {base : Int} {to m : Nat} {been : List Nat} {now : List Sty} {t : Span} {room : Nat} {sum : Int} {st : Int × List Sty} (hs : StOk st) (h0 : 0 ≤ sum) (h1 : sum + 500 * (m + 1) ≤ 5000) (h2 : now.length + (m + 1) ≤ 5) : ∀ {k : Nat}, StOk (srK S base to m been now t room sum st k)
  | 0 => hs
  | k + 1 => by
    have ih := srK_ok (S := S) (base := base) (to := to) (been := been) (t := t) (room := room) hs h0 h1 h2 (k := k)
    rw [srK_succ]
    unfold srStep
    split
    · exact ih
    · split
      · exact ih
      · rename_i n u hw
        have hn : n ≤ 500 := wait_le hw
        exact srch_ok ih (by omega) (by omega) (by simp; omega)
end Go.Proofs.YtfpaihjcbpaneaaGreatDoor.D
namespace Go.Proofs.YtfpaihjcbpaneaaGreatDoor
open Go.RowKit D
set_option linter.unusedVariables false
set_option linter.unusedSimpArgs false
attribute [local go_sem high] run_minI run_maxI
attribute [local go_sem] upon2 cls_cell cls_frozen forall_const exists_eq_left'
attribute [local go_sem] FirstUpon
def waitR (x : Option (Nat × Span)) : Value :=
  match x with
  | some (n, u) => .tuple #[.int .i64 (n : Int), .agg #[.int .i64 u.lo, .int .i64 u.hi], .bool true]
  | none => .tuple #[.int .i64 0, .agg #[.int .i64 0, .int .i64 0], .bool false]
set_option maxRecDepth 100000 in
set_option maxHeartbeats 8000000 in
theorem waitM_any {S : Site} {s : SSl} {b : Nat} {M : List Mv} {k0 : Sl} {t : Span} {r nx : Nat} {w : World} (hV : VltAt w S s b M k0) (hC : Chk S) (hr : r < S.rooms.length) (hn : nx < S.rooms.length) (ht : TIn t) :
    Calls Tryz.prog 51 #[.pointer (some ⟨b, 0, none⟩), .agg #[.int .i64 t.lo, .int .i64 t.hi], .int .i64 (r : Int), .int .i64 (nx : Int)] w fun e w' => e = .returned (waitR (waitV S r nx t)) ∧ Below w.heap.size w w' := by
  have HV := Lib.hid hV; have HC := Lib.hid hC; have HT := Lib.hid ht
  have hbl := blk_lt hV.blk
  have hrl := hV.site.rm.le; have hrm := hV.site.rm.max
  clear hV hC ht
  go_enter Tryz.func51, Tryz.ntmps51
  go_wp2_with (fail)
  refine wp_name ?_
  intro w1 hw1
  obtain ⟨n5, hn5⟩ : ∃ n, n = w.heap.size := ⟨_, rfl⟩
  obtain ⟨n9, hn9⟩ : ∃ n, n = n5 + 1 := ⟨_, rfl⟩
  have hE1 : Ext2 w w1 := by rw [hw1]; exact ext_trans (below_alloc' _ _) (below_alloc' _ _)
  have x5 : w1.heap[n5]? = some (Obj.cells #[.int .i64 t.lo, .int .i64 t.hi] 25) := by rw [hw1, hn5]; exact blk_alloc (blk_new _ _) _
  have x9 : w1.heap[n9]? = some (Obj.cells #[.int .i64 0, .int .i64 0] 25) := by rw [hw1, hn9, hn5]; exact blk_new' _ _ (by simp)
  rw [← hn5, ← hn9]
  have lw : w.heap.size ≤ n5 := by omega
  have l59 : n5 < n9 := by omega
  have HE1 := Lib.hid hE1; have X5 := Lib.hid x5; have X9 := Lib.hid x9
  clear hw1 hn5 hn9 hE1 x5 x9
  go_loopw [8, 10, 12] (fun f8 f10 z wr => f8 = .int .i64 0 ∧ f10 = .bool false ∧ ∃ k : Nat, z = .int .i64 (k : Int) ∧ k ≤ 501 ∧ Below w.heap.size w wr ∧ ∃ u : Span, wr.heap[n5]? = some (Obj.cells #[.int .i64 u.lo, .int .i64 u.hi] 25) ∧ wr.heap[n9]? = some (Obj.cells #[.int .i64 0, .int .i64 0] 25) ∧ TIn u ∧ waitV S r nx t = waitF S (rmD S.rooms r) (rmD S.rooms nx) (501 - k) k u) (fun _ _ z _ => 501 - (intOf z).toNat)
  case atStart => exact ⟨rfl, rfl, 0, rfl, by omega, HE1.out, t, X5.out, X9.out, HT.out, rfl⟩
  case round =>
    obtain ⟨rfl, rfl, k, rfl, hk, hB, u, x5, x9, hti, hw⟩ := hrel
    have HB := Lib.hid hB; have HTI := Lib.hid hti; have HW := Lib.hid hw; have X5 := Lib.hid x5; have X9 := Lib.hid x9
    have l9 := blk_lt x9
    clear hB hti hw
    by_cases hlt : k < 501
    · go_light
      have i2 : (k : Int) < 501 := by omega
      have i3 : decide ((k : Int) < 501) = true := decide_eq_true i2
      have hVr := HV.out.below HB.out
      obtain ⟨bR, oR, haR, hcR⟩ := rm_cells hVr.site.rm hn
      obtain ⟨c0, c1, c2, c3, c4, c5, c6, c7, c8, c9⟩ := hcR
      obtain ⟨R, hR⟩ : ∃ R, R = rmD S.rooms nx := ⟨_, rfl⟩
      rw [← hR] at c0 c1 c2 c3 c4 c5 c6 c7 c8 c9
      have HR := Lib.hid hR
      have x0 := hVr.blk
      rw [haR] at x0
      have hRI : RIn R := by rw [hR]; exact (HC.out.room hn).1
      have i0 : (0 : Int) ≤ (nx : Int) := by omega
      have i1 : (nx : Int) < (S.rooms.length : Int) := by omega
      have w3' : IntKind.i64.wrap ((k : Int) + 1) = (k : Int) + 1 := IntWalk.i64_in _ (by omega)
      obtain ⟨my, hmy⟩ : ∃ x, x = mayS u R := ⟨_, rfl⟩
      have HM : Hid (∀ W, Calls Tryz.prog 61 #[.agg #[.int .i64 u.lo, .int .i64 u.hi], .agg #[.string R.name, .int .i64 R.tlo, .int .i64 R.thi, .int .i64 R.dlo, .int .i64 R.dhi, .bool R.people, .bool R.allows, .int .i64 R.most, .int .i64 R.x, .int .i64 R.y]] W fun e w' => e = .returned (.bool my) ∧ Below W.heap.size W w') := Lib.hid fun W => by rw [hmy]; exact may_any W HTI.out hRI
      have HMY := Lib.hid hmy
      have HWS : Hid (waitF S (rmD S.rooms r) (rmD S.rooms nx) (501 - k) k u = if my then waitF S (rmD S.rooms r) (rmD S.rooms nx) (501 - (k + 1)) (k + 1) (warmV S (rmD S.rooms r) u) else some (k, u)) := Lib.hid (by
        rw [hmy, hR, show 501 - k = (501 - (k + 1)) + 1 by omega, waitF])
      have q0c := cell_blk x0
      have q0f := frz_blk x0
      have q5c := cell_blk x5
      have q5f := frz_blk x5
      clear hVr hR x0 hRI hmy x5 x9
      go_wp2_with (fail)
      refine region_ev [] [0, 1, 2, 3, 4, 5, 6, 7, 8, 9, 10] [] [] (by kernel_rfl) (by kernel_rfl) (by intro c a d v w h; cases d <;> exact h) ?_
      simp only [picks, List.drop_succ_cons, List.drop_zero]
      repeat (refine wpQ0_step (fun K hK => ?_); go_simp; (refine hK _ ?_; clear hK K))
      refine wpQ0_nil ?_
      repeat ((with_reducible refine wpQ2_step (fun K hK => ?_)); go_simp; first | ((with_reducible refine hK _ ?_); clear hK K) | (apply Exists.intro; refine ⟨fun x => ?_, hK _ ?_⟩; ((with_reducible exact HM.out x.1)); clear hK K))
      refine wpQ2_nil ?_
      refine Events.none_ fun w3 hg3 => ?_
      simp only [picks, List.drop_succ_cons, List.drop_zero]
      have HB3 := Lib.hid (below_ext HB.out hg3)
      have Y5 := Lib.hid (Ext2.blk hg3 X5.out); have Y9 := Lib.hid (Ext2.blk hg3 X9.out)
      clear q0c q0f q5c q5f c0 c1 c2 c3 c4 c5 c6 c7 c8 c9 haR hg3 HM
      refine wpList_nil ?_
      cases my
      case false =>
        have x5 := Y5.out; have x9 := Y9.out
        have q5c := cell_blk x5
        have q5f := frz_blk x5
        have q9c := cell_blk x9
        have q9f := frz_blk x9
        clear x5 x9
        go_wp2_with (fail)
        refine region_ev [] [0, 1, 2] [] [3, 4] (by kernel_rfl) (by kernel_rfl) (by intro c a d v w h; cases d <;> exact h) ?_
        simp only [picks, List.drop_succ_cons, List.drop_zero]
        repeat (refine wpQ0_step (fun K hK => ?_); go_simp; (refine hK _ ?_; clear hK K))
        refine wpQ0_nil ?_
        repeat ((with_reducible refine wpQ2_step (fun K hK => ?_)); go_simp; first | ((with_reducible refine hK _ ?_); clear hK K) | (apply Exists.intro; refine ⟨fun x => ?_, hK _ ?_⟩; (fail); clear hK K))
        refine wpQ2_nil ?_
        refine Events.none_ fun w4 hg4 => ?_
        simp only [picks, List.drop_succ_cons, List.drop_zero]
        have HB4 := Lib.hid (below_ext HB3.out hg4)
        have x9 := Ext2.blk hg4 Y9.out
        have X9' := Lib.hid x9
        clear q5c q5f q9c q9f hg4
        have q9c := cell_blk x9
        have q9f := frz_blk x9
        clear x9
        go_wp2_with (fail)
        have y9 := Eq.trans (blk_set (blk_set X9'.out 0 (.int .i64 u.lo)) 1 (.int .i64 u.hi)) rfl
        have yc := cell_blk y9
        refine bodyPost_ret (v := .tuple #[.int .i64 (k : Int), .agg #[.int .i64 u.lo, .int .i64 u.hi], .bool true]) ?_ rfl ⟨by rw [HW.out, HWS.out]; rfl, below_set (below_set HB4.out (by omega)) (by omega)⟩
        simp [results, Tryz.results51, go_sem, yc]
      case true =>
        have x5 := Y5.out
        have q5c := cell_blk x5
        have q5f := frz_blk x5
        clear x5
        go_wp2_with (fail)
        refine (warm_any (HV.out.below HB3.out) hr HC.out.rates (HC.out.room hr).1 HTI.out).mono ?_
        rintro e w4 ⟨rfl, hg4⟩
        have HB4 := Lib.hid (below_ext HB3.out hg4)
        have x5 := Ext2.blk hg4 Y5.out
        have Z5 := Lib.hid x5; have Z9 := Lib.hid (Ext2.blk hg4 Y9.out)
        obtain ⟨u', hu'⟩ : ∃ x, x = warmV S (rmD S.rooms r) u := ⟨_, rfl⟩
        rw [← hu']
        have HU := Lib.hid hu'
        clear q5c q5f hg4 hu'
        have q5c := cell_blk x5
        have q5f := frz_blk x5
        clear x5
        go_wp2_with (fail)
        go_roundw
        case rel => exact ⟨rfl, rfl, k + 1, by go_num, by omega, below_set (below_set HB4.out lw) lw, u', Eq.trans (blk_set (blk_set Z5.out _ _) _ _) rfl, blk_set_ne (blk_set_ne Z9.out (by omega)) (by omega), by rw [HU.out]; exact warm_in HC.out.rates (HC.out.room hr).1 HTI.out, by rw [HW.out, HWS.out, HU.out]; rfl⟩
        case measure => simp [intOf]; omega
    · obtain rfl : k = 501 := by omega
      have r1 : ¬ (501 : Int) < 501 := by omega
      have x9' := x9
      have q9c := cell_blk x9'
      have q9f := frz_blk x9'
      clear x9' x9 x5
      go_wp2_with (fail)
      have y9 := Eq.trans (blk_set (blk_set X9.out 0 (.int .i64 0)) 1 (.int .i64 0)) rfl
      have yc := cell_blk y9
      refine bodyPost_ret (v := .tuple #[.int .i64 0, .agg #[.int .i64 0, .int .i64 0], .bool false]) ?_ rfl ⟨by rw [HW.out]; rfl, below_set (below_set HB.out (by omega)) (by omega)⟩
      simp [results, Tryz.results51, go_sem, yc]
end Go.Proofs.YtfpaihjcbpaneaaGreatDoor
