/-
  Plain: the best way is a way, and none is better; the rest of what the outright laws need.
  Plain: the moves of the best way are kept, for a can that is alone.
  VaultAgain, plain: moves that are left out, and moves that come later.
  VaultBest, plain: the hours of a list of rooms by Wait, and what the law asks of them.
  VaultWay, plain: the best way as moves.
-/
import Derived.Test.YtfpaihjcbpaneaaDoorVSrA
import Derived.Test.YtfpaihjcbpaneaaDoorVPlA
import Derived.Test.YtfpaihjcbpaneaaDoorVPathA
namespace Go.Proofs.YtfpaihjcbpaneaaDoor.D
set_option linter.unusedVariables false
set_option linter.unusedSimpArgs false
/-- The hours of a list of rooms, by wait alone, behind i of them. -/
def thrK (S : Site) (t : Span) (L : List Nat) : Nat → Option (Int × Span)
  | 0 => some (0, t)
  | i + 1 => match thrK S t L i with
    | none => none
    | some (s, u) => match waitV S (natD L i) (natD L (i + 1)) u with
      | none => none
      | some (n, v) => some (s + n, v)
/-- A list of rooms that a way may have. -/
structure Road (S : Site) (base : Int) (L : List Nat) : Prop where
  dup : ∀ i, i < L.length → dupB L i = false
  bar : ∀ i, i < L.length → (decide (0 < i) && barred S base (natD L i)) = false
theorem wayG_thr {S : Site} {base : Int} {t : Span} {L : List Nat} (hR : Road S base L) : ∀ {k : Nat}, k + 1 ≤ L.length → (wayG S base t L k).map (fun x => (x.2.1, x.2.2)) = thrK S t L k
  | 0, _ => rfl
  | k + 1, hk => by
    have ih := wayG_thr hR (t := t) (k := k) (by omega)
    rw [wayG, thrK, ← ih]
    cases wayG S base t L k with
    | none => rfl
    | some x =>
      obtain ⟨a, b, c⟩ := x
      simp only [Option.map_some]
      rw [hR.dup k (by omega), hR.bar k (by omega)]
      simp only [Bool.false_eq_true, if_false]
      rw [if_pos (by omega)]
      cases waitV S (natD L k) (natD L (k + 1)) c with
      | none => rfl
      | some y => rfl
/-- What a way says of its rooms. -/
structure IsWay (S : Site) (base : Int) (t : Span) (L : List Nat) (k : Nat) (st : List Sty) (h : Int) (u : Span) : Prop where
  len : st.length = k
  rooms : ∀ i, i < k → (syD st i).room = (natD L i : Int)
  thr : k + 1 ≤ L.length → thrK S t L k = some (h, u)
  pos : 0 ≤ h
theorem syD_app {L E : List Sty} {i : Nat} (h : i < L.length) : syD (L ++ E) i = syD L i := by
  unfold syD; rw [List.getD_eq_getElem?_getD, List.getD_eq_getElem?_getD, List.getElem?_append_left h]
theorem syD_new (L : List Sty) (x : Sty) : syD (L ++ [x]) L.length = x := by unfold syD; simp
theorem wayG_is {S : Site} {base : Int} {t : Span} {L : List Nat} : ∀ {k : Nat} {st : List Sty} {h : Int} {u : Span}, wayG S base t L k = some (st, h, u) → IsWay S base t L k st h u ∧ (∀ i, i < k → dupB L i = false ∧ (decide (0 < i) && barred S base (natD L i)) = false)
  | 0, st, h, u, hg => by
    cases hg
    exact ⟨⟨rfl, fun i hi => absurd hi (Nat.not_lt_zero i), fun _ => rfl, Int.le_refl _⟩, fun i hi => absurd hi (Nat.not_lt_zero i)⟩
  | k + 1, st, h, u, hg => by
    rw [wayG] at hg
    cases hp : wayG S base t L k with
    | none => rw [hp] at hg; cases hg
    | some x =>
      obtain ⟨a, b, c⟩ := x
      rw [hp] at hg
      obtain ⟨ih, ihb⟩ := wayG_is hp
      simp only at hg
      split at hg
      · cases hg
      rename_i hd
      split at hg
      · cases hg
      rename_i hb
      have hdb : ∀ i, i < k + 1 → dupB L i = false ∧ (decide (0 < i) && barred S base (natD L i)) = false := fun i hi => by
        rcases Nat.lt_or_ge i k with h1 | h1
        · exact ihb i h1
        · obtain rfl : i = k := by omega
          exact ⟨by simpa using hd, by simpa only [Bool.not_eq_true] using hb⟩
      have hrooms : ∀ (n : Int) i, i < k + 1 → (syD (a ++ [⟨(natD L k : Int), n⟩]) i).room = (natD L i : Int) := fun n i hi => by
        rcases Nat.lt_or_ge i k with h1 | h1
        · rw [syD_app (by rw [ih.len]; exact h1)]; exact ih.rooms i h1
        · obtain rfl : i = k := by omega
          have := syD_new a ⟨(natD L i : Int), n⟩
          rw [ih.len] at this; rw [this]
      split at hg
      · rename_i hlt
        split at hg
        · cases hg
        · rename_i n v hw
          cases hg
          have hpos := ih.pos
          exact ⟨⟨by simp [ih.len], hrooms _, fun _ => by rw [thrK, ih.thr (by omega)]; simp only; rw [hw], by omega⟩, hdb⟩
      · cases hg
        exact ⟨⟨by simp [ih.len], hrooms _, fun h => by omega, ih.pos⟩, hdb⟩
theorem better_spec : ∀ (ws : List (Option (List Sty × Int))) (st : Int × List Sty), (∀ l h, some (l, h) ∈ ws → 0 ≤ h) →
    (ws.foldl better st = st ∨ some ((ws.foldl better st).2, (ws.foldl better st).1) ∈ ws) ∧ (∀ l h, some (l, h) ∈ ws → 0 ≤ (ws.foldl better st).1 ∧ (ws.foldl better st).1 ≤ h) ∧ (0 ≤ st.1 → 0 ≤ (ws.foldl better st).1 ∧ (ws.foldl better st).1 ≤ st.1)
  | [], st, _ => ⟨.inl rfl, fun l h hm => (by cases hm), fun h => ⟨h, Int.le_refl _⟩⟩
  | w :: ws, st, hp => by
    obtain ⟨h1, h2, h3⟩ := better_spec ws (better st w) (fun l h hm => hp l h (List.mem_cons_of_mem _ hm))
    rw [List.foldl_cons]
    have hb : better st w = st ∨ some ((better st w).2, (better st w).1) = w := by
      cases w with
      | none => exact .inl rfl
      | some x =>
        obtain ⟨l, h⟩ := x
        unfold better; simp only
        split
        · exact .inr rfl
        · exact .inl rfl
    have hc : ∀ l h, w = some (l, h) → 0 ≤ (better st w).1 ∧ (better st w).1 ≤ h := fun l h hw => by
      have := hp l h (by rw [hw]; exact List.mem_cons_self)
      rw [hw]
      unfold better; simp only
      split
      · exact ⟨this, Int.le_refl _⟩
      · omega
    have hd : 0 ≤ st.1 → 0 ≤ (better st w).1 ∧ (better st w).1 ≤ st.1 := fun h0 => by
      cases w with
      | none => exact ⟨h0, Int.le_refl _⟩
      | some x =>
        obtain ⟨l, h⟩ := x
        have := hp l h List.mem_cons_self
        unfold better; simp only
        split
        · simp only; omega
        · omega
    refine ⟨?_, ?_, ?_⟩
    · rcases h1 with h | h
      · rcases hb with h' | h'
        · exact .inl (h.trans h')
        · rw [h]; exact .inr (by rw [h']; exact List.mem_cons_self)
      · exact .inr (List.mem_cons_of_mem _ h)
    · intro l h hm
      rcases List.mem_cons.1 hm with h' | h'
      · have := hc l h h'.symm
        have := h3 this.1
        omega
      · exact h2 l h h'
    · intro h0
      have := hd h0
      have := h3 this.1
      omega
theorem waysV_mem {n to : Nat} : ∀ {m k : Nat} {b : List (List Nat)} {L : List Nat}, k < m → L ∈ levB n to k b → endsB to L = true → L ∈ waysV n to m b
  | 0, k, b, L, hk, _, _ => absurd hk (Nat.not_lt_zero k)
  | m + 1, 0, b, L, _, hL, he => by rw [waysV_eq]; exact List.mem_append_left _ (List.mem_filter.2 ⟨hL, he⟩)
  | m + 1, k + 1, b, L, hk, hL, he => by rw [waysV_eq]; exact List.mem_append_right _ (waysV_mem (k := k) (by omega) hL he)
theorem waysV_sub {n to : Nat} : ∀ {m : Nat} {b : List (List Nat)} {L : List Nat}, L ∈ waysV n to m b → ∃ k, k < m ∧ L ∈ levB n to k b ∧ endsB to L = true
  | 0, b, L, h => by cases h
  | m + 1, b, L, h => by
    rw [waysV_eq] at h
    rcases List.mem_append.1 h with h | h
    · exact ⟨0, by omega, (List.mem_filter.1 h).1, (List.mem_filter.1 h).2⟩
    · obtain ⟨k, h1, h2, h3⟩ := waysV_sub h
      exact ⟨k + 1, by omega, h2, h3⟩
theorem desc_mem {n to : Nat} : ∀ {E P : List Nat}, (∀ x ∈ E, x < n) → (P ++ E).Nodup → (∀ j, j < E.length → natD (P ++ E) (P.length + j - 1) ≠ to) → 0 < P.length → P ++ E ∈ desc n to E.length P
  | [], P, _, _, _, _ => by rw [List.append_nil]; exact List.mem_singleton.2 rfl
  | x :: E, P, hn, hd, he, hP => by
    have h0 := he 0 (by simp)
    rw [Nat.add_zero, natD_app (by omega)] at h0
    rw [List.length_cons, desc]
    have : endsB to P = false := decide_eq_false h0
    rw [this]
    simp only [Bool.false_eq_true, if_false]
    have e : P ++ x :: E = (P ++ [x]) ++ E := by simp
    refine List.mem_flatMap.2 ⟨P ++ [x], ?_, ?_⟩
    · refine List.mem_map.2 ⟨x, List.mem_filter.2 ⟨List.mem_range.2 (hn x List.mem_cons_self), ?_⟩, rfl⟩
      have hx : x ∉ P := fun hm => by
        have := (List.nodup_append.1 hd).2.2 x hm x List.mem_cons_self
        exact this rfl
      simpa using hx
    · rw [e]
      refine desc_mem (fun y hy => hn y (List.mem_cons_of_mem _ hy)) (by rw [← e]; exact hd) (fun j hj => ?_) (by simp)
      have := he (j + 1) (by simp; omega)
      rw [← e]
      have e2 : (P ++ [x]).length + j - 1 = P.length + (j + 1) - 1 := by simp <;> omega
      rw [e2]; exact this
theorem dup_nodup {L : List Nat} (h : ∀ i, i < L.length → dupB L i = false) : L.Nodup := by
  rw [List.nodup_iff_pairwise_ne, List.pairwise_iff_getElem]
  intro i j hi hj hij he
  have := h j hj
  unfold dupB at this
  have h2 : anyF (fun k => decide (natD L k = natD L j)) j = true := anyF_iff.2 ⟨i, hij, decide_eq_true (by
    unfold natD; rw [List.getD_eq_getElem?_getD, List.getD_eq_getElem?_getD, List.getElem?_eq_getElem hi, List.getElem?_eq_getElem hj]; exact he)⟩
  rw [h2] at this; cases this
theorem natD_inj {L : List Nat} (h : ∀ i, i < L.length → dupB L i = false) {i j : Nat} (hi : i < L.length) (hj : j < L.length) (he : natD L i = natD L j) : i = j := by
  rcases Nat.lt_trichotomy i j with h1 | h1 | h1
  · have := h j hj
    unfold dupB at this
    rw [anyF_iff.2 ⟨i, h1, decide_eq_true he⟩] at this; cases this
  · exact h1
  · have := h i hi
    unfold dupB at this
    rw [anyF_iff.2 ⟨j, h1, decide_eq_true he.symm⟩] at this; cases this
theorem road_mem {S : Site} {base : Int} {L : List Nat} {fr to : Nat} (hR : Road S base L) (h1 : 1 ≤ L.length) (h5 : L.length ≤ 5) (h0 : natD L 0 = fr) (hl : natD L (L.length - 1) = to) (hn : ∀ x ∈ L, x < S.rooms.length) : L ∈ waysV S.rooms.length to 5 [[fr]] := by
  obtain ⟨a, E, rfl⟩ : ∃ a E, L = a :: E := by cases L with | nil => simp at h1 | cons a E => exact ⟨a, E, rfl⟩
  have ha : a = fr := h0
  subst ha
  refine waysV_mem (k := E.length) (by simp at h5; omega) ?_ (decide_eq_true hl)
  rw [levB_desc]
  simp only [List.flatMap_cons, List.flatMap_nil, List.append_nil]
  refine desc_mem (P := [a]) (fun x hx => hn x (List.mem_cons_of_mem _ hx)) (dup_nodup hR.dup) (fun j hj he => ?_) (by simp)
  have hne := natD_inj hR.dup (i := j) (j := (a :: E).length - 1) (by simp <;> omega) (by simp) (by rw [hl]; simpa using he)
  simp at hne <;> omega
theorem wayV_is {S : Site} {base : Int} {t : Span} {L : List Nat} {st : List Sty} {h : Int} (hw : wayV S base t L = some (st, h)) :
    (1 ≤ L.length ∧ L.length ≤ 5) ∧ Road S base L ∧ st.length = L.length ∧ (∀ i, i < L.length → (syD st i).room = (natD L i : Int)) ∧ 0 ≤ h ∧ ∃ u, thrK S t L (L.length - 1) = some (h, u) := by
  unfold wayV at hw
  split at hw
  · cases hw
  rename_i hlen
  cases hg : wayG S base t L L.length with
  | none => rw [hg] at hw; cases hw
  | some x =>
    obtain ⟨a, b, c⟩ := x
    rw [hg] at hw
    simp only [Option.map_some, Option.some.injEq, Prod.mk.injEq] at hw
    obtain ⟨rfl, rfl⟩ := hw
    obtain ⟨hi, hb⟩ := wayG_is hg
    have hR : Road S base L := ⟨fun i h => (hb i h).1, fun i h => (hb i h).2⟩
    refine ⟨by omega, hR, hi.len, hi.rooms, hi.pos, ?_⟩
    obtain ⟨m, hm⟩ : ∃ m, L.length = m + 1 := ⟨L.length - 1, by omega⟩
    rw [hm, wayG] at hg
    cases hp : wayG S base t L m with
    | none => rw [hp] at hg; cases hg
    | some y =>
      obtain ⟨a', b', c'⟩ := y
      rw [hp] at hg
      simp only at hg
      rw [hR.dup m (by omega), hR.bar m (by omega)] at hg
      simp only [Bool.false_eq_true, if_false] at hg
      rw [if_neg (by omega)] at hg
      simp only [Option.some.injEq, Prod.mk.injEq] at hg
      obtain ⟨-, rfl, rfl⟩ := hg
      have := wayG_thr hR (t := t) (k := m) (by omega)
      rw [hp] at this
      exact ⟨c', by rw [hm, Nat.add_sub_cancel, ← this]; rfl⟩
theorem best_is {S : Site} {base : Int} {t : Span} {fr to : Nat} (h : 0 ≤ (bestP S base t fr to).1) :
    ∃ L : List Nat, (1 ≤ L.length ∧ L.length ≤ 5) ∧ Road S base L ∧ (bestP S base t fr to).2.length = L.length ∧ (∀ i, i < L.length → (syD (bestP S base t fr to).2 i).room = (natD L i : Int)) ∧ (∃ u, thrK S t L (L.length - 1) = some ((bestP S base t fr to).1, u)) ∧ natD L 0 = fr ∧ natD L (L.length - 1) = to ∧ wayV S base t L = some ((bestP S base t fr to).2, (bestP S base t fr to).1) ∧ L ∈ waysV S.rooms.length to 5 [[fr]] := by
  rw [← best_same] at h ⊢
  unfold bestR at h ⊢
  have hp : ∀ l h, some (l, h) ∈ (waysV S.rooms.length to 5 [[fr]]).map (wayV S base t) → 0 ≤ h := fun l h hm => by
    obtain ⟨L, -, hL⟩ := List.mem_map.1 hm
    exact (wayV_is hL).2.2.2.2.1
  obtain ⟨h1, -, -⟩ := better_spec _ (-1, []) hp
  rcases h1 with h1 | h1
  · rw [h1] at h; simp at h
  · obtain ⟨L, hL1, hL2⟩ := List.mem_map.1 h1
    obtain ⟨a, b, c, d, e, f⟩ := wayV_is hL2
    obtain ⟨k, -, hk, he⟩ := waysV_sub hL1
    rw [levB_desc] at hk
    simp only [List.flatMap_cons, List.flatMap_nil, List.append_nil] at hk
    obtain ⟨E, rfl, -⟩ := desc_form _ _ _ _ _ hk
    exact ⟨_, a, b, c, d, f, rfl, of_decide_eq_true he, hL2, hL1⟩
theorem best_le {S : Site} {base : Int} {t : Span} {fr to : Nat} {L : List Nat} {o : Int} {u : Span} (hR : Road S base L) (h1 : 1 ≤ L.length) (h5 : L.length ≤ 5) (h0 : natD L 0 = fr) (hl : natD L (L.length - 1) = to) (hn : ∀ x ∈ L, x < S.rooms.length) (ht : thrK S t L (L.length - 1) = some (o, u)) :
    0 ≤ (bestP S base t fr to).1 ∧ (bestP S base t fr to).1 ≤ o := by
  rw [← best_same]
  unfold bestR
  have hp : ∀ l h, some (l, h) ∈ (waysV S.rooms.length to 5 [[fr]]).map (wayV S base t) → 0 ≤ h := fun l h hm => by
    obtain ⟨L, -, hL⟩ := List.mem_map.1 hm
    exact (wayV_is hL).2.2.2.2.1
  obtain ⟨-, h2, -⟩ := better_spec _ (-1, []) hp
  obtain ⟨m, hm⟩ : ∃ m, L.length = m + 1 := ⟨L.length - 1, by omega⟩
  have hw : ∃ st, wayV S base t L = some (st, o) := by
    have e := wayG_thr hR (t := t) (k := m) (by omega)
    rw [hm, Nat.add_sub_cancel] at ht
    rw [ht] at e
    cases hg : wayG S base t L m with
    | none => rw [hg] at e; cases e
    | some x =>
      obtain ⟨a, b, c⟩ := x
      rw [hg] at e
      simp only [Option.map_some, Option.some.injEq, Prod.mk.injEq] at e
      obtain ⟨rfl, rfl⟩ := e
      unfold wayV
      rw [if_neg (by omega), hm, wayG, hg]
      simp only
      rw [hR.dup m (by omega), hR.bar m (by omega)]
      simp only [Bool.false_eq_true, if_false]
      rw [if_neg (by omega)]
      exact ⟨_, rfl⟩
  obtain ⟨st, hw⟩ := hw
  exact h2 st o (List.mem_map.2 ⟨L, road_mem hR h1 h5 h0 hl hn, hw⟩)
/-! Days. -/
theorem day_temp {S : Site} {M : List Mv} {c d : Nat} : ∀ {j k : Nat}, k ≤ j → (dayJ S M c d j).tlo ≤ (ownT S M c (d * 24 + k)).lo ∧ (ownT S M c (d * 24 + k)).hi ≤ (dayJ S M c d j).thi
  | 0, k, h => by
    obtain rfl : k = 0 := by omega
    exact ⟨Int.le_refl _, Int.le_refl _⟩
  | j + 1, k, h => by
    rw [dayJ]; simp only
    rcases Nat.lt_or_ge j k with h1 | h1
    · obtain rfl : k = j + 1 := by omega
      have e : d * 24 + (j + 1) = d * 24 + j + 1 := by omega
      rw [e]; omega
    · have := day_temp (S := S) (M := M) (c := c) (d := d) h1
      omega
theorem day_damp {S : Site} {M : List Mv} {c d : Nat} : ∀ {j k : Nat}, k < j → (dayJ S M c d j).dlo ≤ (rmAt S M c ((d * 24 + k : Nat) : Int)).dlo ∧ (rmAt S M c ((d * 24 + k : Nat) : Int)).dhi ≤ (dayJ S M c d j).dhi
  | 0, k, h => absurd h (Nat.not_lt_zero k)
  | j + 1, k, h => by
    rw [dayJ]; simp only
    rcases Nat.lt_or_ge k j with h1 | h1
    · have := day_damp (S := S) (M := M) (c := c) (d := d) h1
      omega
    · obtain rfl : k = j := by omega
      omega
/-! Earlier hours do not hang on later moves. -/
theorem ownT_congr {S : Site} {M M' : List Mv} {c : Nat} : ∀ {n : Nat}, (∀ h : Nat, h < n → atV S M c (h : Int) = atV S M' c (h : Int)) → ownT S M c n = ownT S M' c n
  | 0, _ => rfl
  | n + 1, h => by rw [ownT, ownT, ownT_congr fun i hi => h i (by omega)]; unfold rmAt; rw [h n (by omega)]
theorem own_take {S : Site} {M : List Mv} (hK : Kept S M) {j n : Nat} (hj : j < M.length) (hn : (n : Int) ≤ (mvD M j).hour) (c : Nat) : ownT S M c n = ownT S (M.take j) c n :=
  ownT_congr fun h hh => take_late hK (by omega) (fun _ => by omega)
end Go.Proofs.YtfpaihjcbpaneaaDoor.D
namespace Go.Proofs.YtfpaihjcbpaneaaDoor.D
set_option linter.unusedVariables false
set_option linter.unusedSimpArgs false
def cumH (st : List Sty) : Nat → Int
  | 0 => 0
  | k + 1 => cumH st k + (syD st k).hours
def movesV (st : List Sty) : Nat → List Mv
  | 0 => []
  | k + 1 => movesV st k ++ [⟨cumH st (k + 1), 0, (syD st (k + 1)).room⟩]
theorem movesV_len (st : List Sty) : ∀ k, (movesV st k).length = k
  | 0 => rfl
  | k + 1 => by rw [movesV, List.length_append, movesV_len st k]; rfl
theorem movesV_at (st : List Sty) : ∀ {k i : Nat}, i < k → mvD (movesV st k) i = ⟨cumH st (i + 1), 0, (syD st (i + 1)).room⟩
  | k + 1, i, h => by
    rw [movesV]
    rcases Nat.lt_or_ge i k with h1 | h1
    · rw [mvD_app (by rw [movesV_len]; exact h1), movesV_at st h1]
    · obtain rfl : i = k := by omega
      have := mvD_new (movesV st i) ⟨cumH st (i + 1), 0, (syD st (i + 1)).room⟩
      rw [movesV_len] at this; exact this
theorem waitF_warm {S : Site} {r nx : Rm} : ∀ {f n : Nat} {t : Span} {m : Nat} {u : Span}, waitF S r nx f n t = some (m, u) → n ≤ m ∧ u = warmN S r (m - n) t ∧ mayS u nx = false
  | 0, _, _, _, _, h => by cases h
  | f + 1, n, t, m, u, h => by
    rw [waitF] at h
    split at h
    · obtain ⟨a, b, c⟩ := waitF_warm h
      refine ⟨by omega, ?_, c⟩
      rw [b, show m - n = (m - (n + 1)) + 1 by omega]; rfl
    · rename_i hm
      obtain ⟨rfl, rfl⟩ : n = m ∧ t = u := by simpa using h
      exact ⟨Nat.le_refl _, by rw [Nat.sub_self]; rfl, by simpa using hm⟩
/-- The stays of a way, and what wait says of them. -/
structure Stays (S : Site) (t : Span) (L : List Nat) (st : List Sty) (k : Nat) (u : Nat → Span) : Prop where
  zero : u 0 = t
  step : ∀ i, i < k → ∃ n : Nat, (syD st i).hours = (n : Int) ∧ waitV S (natD L i) (natD L (i + 1)) (u i) = some (n, u (i + 1))
theorem wayG_stays {S : Site} {base : Int} {t : Span} {L : List Nat} : ∀ {k : Nat} {st : List Sty} {h : Int} {v : Span}, k + 1 ≤ L.length → wayG S base t L k = some (st, h, v) → st.length = k ∧ cumH st k = h ∧ ∃ u, Stays S t L st k u ∧ u k = v
  | 0, st, h, v, _, hg => by cases hg; exact ⟨rfl, rfl, fun _ => t, ⟨rfl, fun i hi => absurd hi (Nat.not_lt_zero i)⟩, rfl⟩
  | k + 1, st, h, v, hk, hg => by
    rw [wayG] at hg
    cases hp : wayG S base t L k with
    | none => rw [hp] at hg; cases hg
    | some x =>
      obtain ⟨a, b, c⟩ := x
      rw [hp] at hg
      obtain ⟨hl, hc, u, hu, huk⟩ := wayG_stays (by omega) hp
      simp only at hg
      split at hg
      · cases hg
      split at hg
      · cases hg
      rw [if_pos (by omega)] at hg
      cases hw : waitV S (natD L k) (natD L (k + 1)) c with
      | none => rw [hw] at hg; cases hg
      | some y =>
        obtain ⟨n, w⟩ := y
        rw [hw] at hg
        simp only [Option.some.injEq, Prod.mk.injEq] at hg
        obtain ⟨rfl, rfl, rfl⟩ := hg
        have hcum : ∀ j, j ≤ k → cumH (a ++ [⟨(natD L k : Int), (n : Int)⟩]) j = cumH a j := fun j hj => by
          induction j with
          | zero => rfl
          | succ j ih => rw [cumH, cumH, ih (by omega), syD_app (by omega)]
        have hnew : syD (a ++ [⟨(natD L k : Int), (n : Int)⟩]) k = ⟨(natD L k : Int), (n : Int)⟩ := by have := syD_new a ⟨(natD L k : Int), (n : Int)⟩; rwa [hl] at this
        refine ⟨by simp [hl], by rw [cumH, hcum k (Nat.le_refl _), hc, hnew], fun i => if i ≤ k then u i else w, ⟨?_, fun i hi => ?_⟩, ?_⟩
        · simp only [Nat.zero_le, if_true]; exact hu.zero
        · rcases Nat.lt_or_ge i k with h1 | h1
          · obtain ⟨n', e1, e2⟩ := hu.step i h1
            refine ⟨n', by rw [syD_app (by omega)]; exact e1, ?_⟩
            rw [if_pos (by omega), if_pos (by omega)]; exact e2
          · obtain rfl : i = k := by omega
            refine ⟨n, by rw [hnew], ?_⟩
            rw [if_pos (by omega), if_neg (by omega), huk]; exact hw
        · simp only; rw [if_neg (by omega)]
theorem atV_moves {S : Site} {st : List Sty} {k : Nat} {h : Int} (hh : cumH st k ≤ h) (hk : 0 < k) : atV S (movesV st k) 0 h = (syD st k).room := by
  obtain ⟨j, rfl⟩ : ∃ j, k = j + 1 := ⟨k - 1, by omega⟩
  rw [movesV, atV_snoc, if_pos ⟨rfl, hh⟩]
theorem own_stay {S : Site} {M : List Mv} {r : Nat} {h0 : Nat} : ∀ {j : Nat}, (∀ i, i < j → atV S M 0 ((h0 + i : Nat) : Int) = (r : Int)) → ownT S M 0 (h0 + j) = warmN S (rmD S.rooms r) j (ownT S M 0 h0)
  | 0, _ => rfl
  | j + 1, h => by
    rw [← Nat.add_assoc, ownT, own_stay fun i hi => h i (by omega), warmN_succ]
    unfold rmAt
    rw [h j (by omega)]; rfl
/-- What holds of the first k moves. -/
structure Goes (S : Site) (st : List Sty) (k : Nat) (u : Span) : Prop where
  kept : Kept S (movesV st k)
  cum : 0 ≤ cumH st k
  own : ownT S (movesV st k) 0 (cumH st k).toNat = u
theorem goes {S : Site} {t : Span} {L : List Nat} {st : List Sty} {u : Nat → Span} {m : Nat} (hC : Chk S) (h1 : S.cans.length = 1) (hb : (cnD S.cans 0).base ≠ 1) (hr0 : (cnD S.cans 0).room = (natD L 0 : Int)) (ht : t = ⟨(rmD S.rooms (natD L 0)).tlo, (rmD S.rooms (natD L 0)).thi⟩)
    (hd : ∀ i, i < L.length → dupB L i = false) (hn : ∀ i, i < L.length → natD L i < S.rooms.length) (hrm : ∀ i, i < L.length → (syD st i).room = (natD L i : Int)) (hL : L.length = m + 1) (hS : Stays S t L st m u) (hcum : cumH st m ≤ 2400) :
    ∀ {k : Nat}, k ≤ m → Goes S st k (u k)
  | 0, _ => ⟨kept_nil S, Int.le_refl _, by rw [hS.zero, ht, cumH, Int.toNat_zero, ownT, hr0]; rfl⟩
  | k + 1, hk => by
    have ih := goes hC h1 hb hr0 ht hd hn hrm hL hS hcum (k := k) (by omega)
    obtain ⟨n, e1, e2⟩ := hS.step k (by omega)
    unfold waitV at e2
    obtain ⟨-, e3, e4⟩ := waitF_warm e2
    rw [Nat.sub_zero] at e3
    have hck : cumH st (k + 1) = cumH st k + n := by rw [cumH, e1]
    have hle : cumH st (k + 1) ≤ cumH st m := by
      have : ∀ j, j ≤ m → k + 1 ≤ j → cumH st (k + 1) ≤ cumH st j := fun j hj hkj => by
        induction j with
        | zero => omega
        | succ j ih =>
          rcases Nat.lt_or_ge j (k + 1) with h' | h'
          · obtain rfl : j = k := by omega
            exact Int.le_refl _
          · obtain ⟨n', e', -⟩ := hS.step j (by omega)
            have := ih (by omega) h'
            have e5 : cumH st (j + 1) = cumH st j + n' := by rw [cumH, e']
            omega
      exact this m (Nat.le_refl _) (by omega)
    have hat : ∀ h : Int, cumH st k ≤ h → atV S (movesV st k) 0 h = (natD L k : Int) := fun h hh => by
      rcases Nat.eq_zero_or_pos k with h0 | h0
      · subst h0; exact hr0
      · rw [atV_moves hh h0, hrm k (by omega)]
    have hown : ownT S (movesV st k) 0 (cumH st (k + 1)).toNat = u (k + 1) := by
      have e : (cumH st (k + 1)).toNat = (cumH st k).toNat + n := by have := ih.cum; omega
      rw [e, own_stay (r := natD L k) (fun i hi => hat _ (by have := ih.cum; omega)), ih.own, e3]
    have hroom : (syD st (k + 1)).room = (natD L (k + 1) : Int) := hrm (k + 1) (by omega)
    have hv : mvE S ⟨cumH st (k + 1), 0, (syD st (k + 1)).room⟩ = 0 := by
      refine mvE_iff.2 ⟨⟨?_, ?_⟩, ⟨?_, ?_⟩, ?_, ?_⟩
      · have := ih.cum; simp only; omega
      · simp only; omega
      · simp
      · simp only; omega
      · simp only [hroom]; omega
      · simp only [hroom]; have := hn (k + 1) (by omega); omega
    have hw : whyV S (movesV st k) ⟨cumH st (k + 1), 0, (syD st (k + 1)).room⟩ = 0 := by
      unfold whyV
      simp only [Int.toNat_zero]
      rw [if_neg, if_neg, if_neg, if_neg, if_neg, if_neg]
      · rw [hown, hroom, Int.toNat_natCast, e4]; simp
      · refine not_not_intro (near_none fun r => amtK_none fun i hi => ?_)
        obtain rfl : i = 0 := by omega
        exact hb
      · exact fun h => hb h.1
      · exact fun h => hb h.1
      · rw [hat _ (by omega), hroom]
        intro he
        have := natD_inj hd (i := k) (j := k + 1) (by omega) (by omega) (by omega)
        omega
      · rintro ⟨h0, h2⟩
        rw [movesV_len] at h0 h2
        rw [movesV_at st (by omega), show k - 1 + 1 = k by omega] at h2
        simp only at h2
        omega
    refine ⟨ih.kept.snoc hw hv, by have := ih.cum; omega, ?_⟩
    rw [← hown]
    refine ownT_congr fun h hh => ?_
    rw [movesV, atV_snoc, if_neg]
    rintro ⟨-, h2⟩
    simp only at h2
    omega
end Go.Proofs.YtfpaihjcbpaneaaDoor.D
namespace Go.Proofs.YtfpaihjcbpaneaaDoor.D
theorem valid_take {S : Site} {L : List Mv} (h : ∀ i, i < L.length → mvE S (mvD L i) = 0) (n : Nat) : ∀ i, i < (L.take n).length → mvE S (mvD (L.take n) i) = 0 := by
  intro i hi
  rw [List.length_take] at hi
  rw [mvD_take (by omega)]
  exact h i (by omega)
theorem valid_kept {S : Site} {M : List Mv} (hK : Kept S M) : ∀ i, i < M.length → mvE S (mvD M i) = 0 := fun _ hi => hK.valid _ (mvD_mem hi)
theorem playV_kept {S : Site} {M : List Mv} (hK : Kept S M) : playV S M = (M, List.replicate M.length 0) := by
  unfold playV
  rw [play_again hK (Nat.le_refl _), List.take_length]
theorem playV_take {S : Site} {L : List Mv} {n : Nat} (hn : n ≤ L.length) : playV S (L.take n) = playK S L n := by
  unfold playV
  have e : (L.take n).length = n := by rw [List.length_take]; omega
  rw [e]
  exact playK_congr fun i hi => mvD_take hi
/-- What VaultAgain looks at. -/
structure AgainV (S : Site) (L : List Mv) (n : Nat) : Prop where
  kept : Kept S (playV S L).1
  le : (playV S L).1.length ≤ L.length
  why : (playV S L).2.length = L.length
  again : playV S (playV S L).1 = ((playV S L).1, List.replicate (playV S L).1.length 0)
  some_ : (playV S (L.take n)).1 = (playV S L).1.take (playV S (L.take n)).1.length
  slen : (playV S (L.take n)).1.length ≤ (playV S L).1.length
  short : (playV S (L.take n)).2 = (playV S L).2.take n
theorem again_v {S : Site} {L : List Mv} {n : Nat} (hv : ∀ i, i < L.length → mvE S (mvD L i) = 0) (hn : n ≤ L.length) : AgainV S L n := by
  have hp := played hv (Nat.le_refl L.length)
  have hq := played hv hn
  have hpr := playK_pre (S := S) (L := L) hn
  have e := playV_take (S := S) hn
  refine ⟨hp.kept, hp.le, hp.len, playV_kept hp.kept, ?_, ?_, ?_⟩
  · rw [e]; exact List.prefix_iff_eq_take.1 hpr.1
  · rw [e]; exact hpr.1.length_le
  · rw [e]
    have := List.prefix_iff_eq_take.1 hpr.2
    rw [hq.len] at this
    exact this
/-- Where and Temp ahead of the first move that differs. -/
theorem again_at {S : Site} {L : List Mv} {n : Nat} (h : AgainV S L n) {P : Nat} (hP : (playV S (L.take n)).1.length = P) (hlt : P < (playV S L).1.length) {x : Int} (hx : x = (mvD (playV S L).1 P).hour - 1) (h0 : 0 ≤ x) (c : Nat) :
    ownT S (playV S L).1 c (x + 1).toNat = ownT S (playV S (L.take n)).1 c (x + 1).toNat ∧ whereV S (playV S L).1 x = whereV S (playV S (L.take n)).1 x := by
  have e := h.some_
  rw [hP] at e
  rw [e]
  refine ⟨own_take h.kept hlt (by omega) c, ?_⟩
  unfold whereV
  refine List.map_congr_left fun i _ => ?_
  exact take_late h.kept (by omega) fun _ => by omega
theorem tempE_zero {S : Site} {L : List Mv} {c h : Int} (hm : movedE S L = 0) (hc : 0 ≤ c ∧ c < S.cans.length) (hh : 0 ≤ h ∧ h ≤ 2400) : tempE S L c h = 0 := by
  unfold tempE playE
  rw [hm, inB_iff.2 (show 0 ≤ c ∧ c ≤ (S.cans.length : Int) - 1 by omega), inB_iff.2 hh]
  simp
theorem whereE_zero {S : Site} {L : List Mv} {h : Int} (hm : movedE S L = 0) (hh : 0 ≤ h ∧ h ≤ 2400) : whereE S L h = 0 := by
  unfold whereE
  rw [hm, inB_iff.2 hh]
  simp
end Go.Proofs.YtfpaihjcbpaneaaDoor.D
namespace Go.Proofs.YtfpaihjcbpaneaaDoor.D
set_option linter.unusedVariables false
theorem spanE_iff {t : Span} : spanE t = 0 ↔ TIn t ∧ t.lo ≤ t.hi := by
  constructor
  · intro h
    refine ⟨spanE_in h, ?_⟩
    unfold spanE at h
    split at h
    · cases h
    · split at h
      · cases h
      · omega
  · rintro ⟨⟨h1, h2, h3, h4⟩, h5⟩
    unfold spanE
    have e : (inB t.lo (-300) 600 && inB t.hi (-300) 600) = true := by
      rw [Bool.and_eq_true, inB_iff, inB_iff]; exact ⟨⟨h1, h2⟩, h3, h4⟩
    rw [if_neg (by rw [e]; decide), if_neg (by omega)]
theorem warm_span {S : Site} {r : Rm} {t : Span} (hS : RateIn S) (hle : S.rlo ≤ S.rhi) (hr : RIn r) (h1 : r.tlo ≤ r.thi) (ht : spanE t = 0) : spanE (warmV S r t) = 0 := by
  obtain ⟨a, b⟩ := spanE_iff.1 ht
  refine spanE_iff.2 ⟨warm_in hS hr a, ?_⟩
  have := toward_in (S := S) (r := r) (t := t) (o := t.lo) (a := r.tlo) (k := S.rlo) (up := false) hS (Int.le_refl _) b (Int.le_refl _) h1 (Int.le_refl _) hle
  omega
theorem warmN_span {S : Site} {r : Rm} (hS : RateIn S) (hle : S.rlo ≤ S.rhi) (hr : RIn r) (h1 : r.tlo ≤ r.thi) : ∀ (n : Nat) {t : Span}, spanE t = 0 → spanE (warmN S r n t) = 0
  | 0, _, h => h
  | n + 1, _, h => warmN_span hS hle hr h1 n (warm_span hS hle hr h1 h)
theorem waitV_span {S : Site} (hC : Chk S) {r nx n : Nat} {t u : Span} (hr : r < S.rooms.length) (ht : spanE t = 0) (h : waitV S r nx t = some (n, u)) : spanE u = 0 := by
  obtain ⟨-, rfl, -⟩ := waitF_warm h
  have := hC.room hr
  exact warmN_span hC.rates hC.rle this.1 this.2.1 _ ht
def thrO (S : Site) (t : Span) (L : List Nat) : Int × Bool :=
  match thrK S t L (L.length - 1) with
  | some (h, _) => (h, decide (0 < L.length))
  | none => (0, false)
theorem thrK_none {S : Site} {t : Span} {L : List Nat} {k : Nat} (h : thrK S t L k = none) : ∀ j, thrK S t L (k + j) = none
  | 0 => h
  | j + 1 => by rw [← Nat.add_assoc, thrK, thrK_none h j]
theorem thrO_none {S : Site} {t : Span} {L : List Nat} {k : Nat} (h : thrK S t L k = none) (hk : k < L.length) : thrO S t L = (0, false) := by
  unfold thrO
  have := thrK_none h (L.length - 1 - k)
  rw [show k + (L.length - 1 - k) = L.length - 1 by omega] at this
  rw [this]
theorem thrO_some {S : Site} {t : Span} {L : List Nat} {k : Nat} {h : Int} {u : Span} (hk : k = L.length - 1) (e : thrK S t L k = some (h, u)) : thrO S t L = (h, decide (0 < L.length)) := by
  unfold thrO; rw [← hk, e]
theorem thrK_some {S : Site} {t : Span} {L : List Nat} {k n : Nat} {h : Int} {u v : Span} (e : thrK S t L k = some (h, u)) (hw : waitV S (natD L k) (natD L (k + 1)) u = some (n, v)) : thrK S t L (k + 1) = some (h + n, v) := by
  rw [thrK, e]; simp only; rw [hw]
theorem thrK_stop {S : Site} {t : Span} {L : List Nat} {k : Nat} {h : Int} {u : Span} (e : thrK S t L k = some (h, u)) (hw : waitV S (natD L k) (natD L (k + 1)) u = none) : thrK S t L (k + 1) = none := by
  rw [thrK, e]; simp only; rw [hw]
theorem thrK_ok {S : Site} (hC : Chk S) {t : Span} (ht : spanE t = 0) {L : List Nat} (hL : ∀ i, i < L.length → natD L i < S.rooms.length) : ∀ {k : Nat} {h : Int} {u : Span}, k ≤ L.length → thrK S t L k = some (h, u) → spanE u = 0 ∧ 0 ≤ h ∧ h ≤ 500 * (k : Int)
  | 0, h, u, _, e => by cases e; exact ⟨ht, Int.le_refl _, Int.le_refl _⟩
  | k + 1, h, u, hk, e => by
    rw [thrK] at e
    cases hp : thrK S t L k with
    | none => rw [hp] at e; cases e
    | some x =>
      obtain ⟨a, b⟩ := x
      rw [hp] at e
      simp only at e
      obtain ⟨i1, i2, i3⟩ := thrK_ok hC ht hL (k := k) (by omega) hp
      cases hw : waitV S (natD L k) (natD L (k + 1)) b with
      | none => rw [hw] at e; cases e
      | some y =>
        obtain ⟨n, v⟩ := y
        rw [hw] at e
        cases e
        have := wait_le hw
        exact ⟨waitV_span hC (hL k (by omega)) i1 hw, by omega, by omega⟩
theorem desc_lt (n to : Nat) : ∀ (m : Nat) (L x : List Nat), (∀ y ∈ L, y < n) → x ∈ desc n to m L → ∀ y ∈ x, y < n
  | 0, L, x, hL, h => by
    have e : x = L := by simpa [desc] using h
    subst e; exact hL
  | m + 1, L, x, hL, h => by
    rw [desc] at h
    split at h
    · cases h
    · obtain ⟨y, hy, hx⟩ := List.mem_flatMap.1 h
      obtain ⟨r, hr, rfl⟩ := List.mem_map.1 hy
      have hr1 : r < n := List.mem_range.1 (List.mem_filter.1 hr).1
      exact desc_lt n to m _ x (fun z hz => by
        rcases List.mem_append.1 hz with h1 | h1
        · exact hL z h1
        · rw [List.mem_singleton.1 h1]; exact hr1) hx
theorem ways_in {n fr to : Nat} {L : List Nat} (hf : fr < n) (h : L ∈ waysV n to 5 [[fr]]) (i : Nat) (hi : i < L.length) : natD L i < n := by
  obtain ⟨k, -, hk, -⟩ := waysV_sub h
  rw [levB_desc] at hk
  simp only [List.flatMap_cons, List.flatMap_nil, List.append_nil] at hk
  have := desc_lt n to k [fr] L (fun y hy => by rw [List.mem_singleton.1 hy]; exact hf) hk
  refine this _ ?_
  unfold natD
  rw [List.getD_eq_getElem?_getD, List.getElem?_eq_getElem hi]
  exact List.getElem_mem _
/-- What the law finds of the best way. -/
theorem best_list {S : Site} {base : Int} {t : Span} {fr to : Nat} (h : 0 ≤ (bestP S base t fr to).1) :
    ∃ L : List Nat, (1 ≤ L.length ∧ L.length ≤ 5) ∧ (bestP S base t fr to).2.length = L.length ∧ (∀ i, i < L.length → (syD (bestP S base t fr to).2 i).room = (natD L i : Int)) ∧ thrO S t L = ((bestP S base t fr to).1, true) ∧ natD L 0 = fr ∧ natD L (L.length - 1) = to ∧ (fr < S.rooms.length → ∀ i, i < L.length → natD L i < S.rooms.length) := by
  obtain ⟨L, h1, -, h3, h4, ⟨u, h5⟩, h6, h7, -, h9⟩ := best_is h
  refine ⟨L, h1, h3, h4, by rw [thrO_some rfl h5, decide_eq_true (by omega)], h6, h7, fun hf i hi => ?_⟩
  exact ways_in hf h9 i hi
end Go.Proofs.YtfpaihjcbpaneaaDoor.D
namespace Go.Proofs.YtfpaihjcbpaneaaDoor.D
set_option linter.unusedVariables false
theorem cumH_congr {a b : List Sty} : ∀ {k : Nat}, (∀ i, i < k → syD a i = syD b i) → cumH a k = cumH b k
  | 0, _ => rfl
  | k + 1, h => by rw [cumH, cumH, cumH_congr fun i hi => h i (by omega), h k (by omega)]
theorem Stays.congr {S : Site} {t : Span} {L : List Nat} {a b : List Sty} {k : Nat} {u : Nat → Span} (h : Stays S t L a k u) (hc : ∀ i, i < k → syD a i = syD b i) : Stays S t L b k u :=
  ⟨h.zero, fun i hi => by rw [← hc i hi]; exact h.step i hi⟩
/-- What the law finds of a way as moves. -/
structure WayM (S : Site) (st : List Sty) (hours : Int) (to m : Nat) : Prop where
  len : st.length = m + 1
  le : m ≤ 4
  cum : ∀ k, k ≤ m → 0 ≤ cumH st k ∧ cumH st k ≤ 500 * (k : Int)
  hr : ∀ i, i < m → 0 ≤ (syD st i).hours ∧ (syD st i).hours ≤ 500
  sum : cumH st m = hours
  kept : cumH st m ≤ 2400 → Kept S (movesV st m)
  at_ : cumH st m ≤ 2400 → whereV S (movesV st m) (cumH st m) = [(to : Int)]
theorem way_m {S : Site} {t : Span} {fr to : Nat} (hC : Chk S) (h1 : S.cans.length = 1) (hb : (cnD S.cans 0).base = 2) (hr0 : (cnD S.cans 0).room = (fr : Int)) (ht : t = ⟨(rmD S.rooms fr).tlo, (rmD S.rooms fr).thi⟩) (hf : fr < S.rooms.length)
    (h : 0 ≤ (bestP S 2 t fr to).1) : ∃ m, WayM S (bestP S 2 t fr to).2 (bestP S 2 t fr to).1 to m := by
  obtain ⟨L, ⟨l1, l5⟩, hR, hlen, hrooms, -, hL0, hLl, hw, hmem⟩ := best_is h
  obtain ⟨st, hst⟩ : ∃ st, st = (bestP S 2 t fr to).2 := ⟨_, rfl⟩
  obtain ⟨hours, hh⟩ : ∃ x, x = (bestP S 2 t fr to).1 := ⟨_, rfl⟩
  rw [← hst, ← hh] at hw
  rw [← hst] at hlen hrooms
  rw [← hst, ← hh]
  obtain ⟨m, hm⟩ : ∃ m, L.length = m + 1 := ⟨L.length - 1, by omega⟩
  unfold wayV at hw
  rw [if_neg (by omega), hm, wayG] at hw
  cases hp : wayG S 2 t L m with
  | none => rw [hp] at hw; cases hw
  | some y =>
    obtain ⟨a, b, c⟩ := y
    rw [hp] at hw
    simp only at hw
    rw [hR.dup m (by omega), hR.bar m (by omega)] at hw
    simp only [Bool.false_eq_true, if_false] at hw
    rw [if_neg (by omega)] at hw
    simp only [Option.map_some, Option.some.injEq, Prod.mk.injEq] at hw
    obtain ⟨rfl, rfl⟩ := hw
    obtain ⟨ha, hcum, u, hu, -⟩ := wayG_stays (by omega) hp
    have hc : ∀ i, i < m → syD a i = syD (a ++ [⟨(natD L m : Int), 0⟩]) i := fun i hi => (syD_app (by omega)).symm
    have hu' := hu.congr hc
    have hcu : ∀ k, k ≤ m → cumH (a ++ [⟨(natD L m : Int), 0⟩]) k = cumH a k := fun k hk => (cumH_congr fun i hi => hc i (by omega)).symm
    have hhr : ∀ i, i < m → 0 ≤ (syD (a ++ [⟨(natD L m : Int), 0⟩]) i).hours ∧ (syD (a ++ [⟨(natD L m : Int), 0⟩]) i).hours ≤ 500 := fun i hi => by
      obtain ⟨n, e1, e2⟩ := hu'.step i hi
      have := wait_le e2
      rw [e1]; omega
    have hin : ∀ i, i < L.length → natD L i < S.rooms.length := fun i hi => ways_in hf hmem i hi
    have hg := fun (h24 : cumH (a ++ [⟨(natD L m : Int), 0⟩]) m ≤ 2400) => goes hC h1 (by rw [hb]; decide) (by rw [hr0, hL0]) (by rw [hL0]; exact ht) hR.dup hin hrooms hm hu' h24 (k := m) (Nat.le_refl _)
    have hcb : ∀ k, k ≤ m → 0 ≤ cumH (a ++ [⟨(natD L m : Int), 0⟩]) k ∧ cumH (a ++ [⟨(natD L m : Int), 0⟩]) k ≤ 500 * (k : Int) := fun k hk => by
      induction k with
      | zero => exact ⟨Int.le_refl _, Int.le_refl _⟩
      | succ k ih =>
        have i1 := ih (by omega)
        have i2 := hhr k (by omega)
        rw [cumH]; omega
    have hlast : natD L m = to := by rw [← hLl, hm, Nat.add_sub_cancel]
    refine ⟨m, by rw [hlen, hm], by omega, hcb, hhr, by rw [hcu m (Nat.le_refl _), hcum], fun h24 => (hg h24).kept, fun h24 => ?_⟩
    unfold whereV
    rw [h1]
    show [atV S _ 0 _] = _
    rcases Nat.eq_zero_or_pos m with h0 | h0
    · subst h0
      show [(cnD S.cans 0).room] = _
      rw [hr0, ← hL0, hlast]
    · rw [atV_moves (Int.le_refl _) h0, hrooms m (by omega), hlast]
end Go.Proofs.YtfpaihjcbpaneaaDoor.D
