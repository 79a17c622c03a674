/-
  Plain: the best way is a way, and none is better; the rest of what the outright laws need.
-/
import Derived.Test.YtkidicfpfknfoaaDoorVSrA
import Derived.Test.YtkidicfpfknfoaaDoorVPlVal
namespace Go.Proofs.YtkidicfpfknfoaaDoor.D
set_option linter.unusedVariables false
set_option linter.unusedSimpArgs false
/-- The hours of a list of rooms, by wait alone, behind i of them. -/
def thrK (S : Site) (t : Span) (L : List Nat) : Nat → Option (Int × Span)
  | 0 => some (0, t)
  | i + 1 => match thrK S t L i with
    | none => none
    | some (s, u) => match waitV S (natD L i) (natD L (i + 1)) u with
      | none => none
      | some (n, v) => some (s + n, v)
/-- A list of rooms that a way may have. -/
structure Road (S : Site) (base : Int) (L : List Nat) : Prop where
  dup : ∀ i, i < L.length → dupB L i = false
  bar : ∀ i, i < L.length → (decide (0 < i) && barred S base (natD L i)) = false
theorem wayG_thr {S : Site} {base : Int} {t : Span} {L : List Nat} (hR : Road S base L) : ∀ {k : Nat}, k + 1 ≤ L.length → (wayG S base t L k).map (fun x => (x.2.1, x.2.2)) = thrK S t L k
  | 0, _ => rfl
  | k + 1, hk => by
    have ih := wayG_thr hR (t := t) (k := k) (by omega)
    rw [wayG, thrK, ← ih]
    cases wayG S base t L k with
    | none => rfl
    | some x =>
      obtain ⟨a, b, c⟩ := x
      simp only [Option.map_some]
      rw [hR.dup k (by omega), hR.bar k (by omega)]
      simp only [Bool.false_eq_true, if_false]
      rw [if_pos (by omega)]
      cases waitV S (natD L k) (natD L (k + 1)) c with
      | none => rfl
      | some y => rfl
/-- What a way says of its rooms. -/
structure IsWay (S : Site) (base : Int) (t : Span) (L : List Nat) (k : Nat) (st : List Sty) (h : Int) (u : Span) : Prop where
  len : st.length = k
  rooms : ∀ i, i < k → (syD st i).room = (natD L i : Int)
  thr : k + 1 ≤ L.length → thrK S t L k = some (h, u)
  pos : 0 ≤ h
theorem syD_app {L E : List Sty} {i : Nat} (h : i < L.length) : syD (L ++ E) i = syD L i := by
  unfold syD; rw [List.getD_eq_getElem?_getD, List.getD_eq_getElem?_getD, List.getElem?_append_left h]
theorem syD_new (L : List Sty) (x : Sty) : syD (L ++ [x]) L.length = x := by unfold syD; simp
theorem wayG_is {S : Site} {base : Int} {t : Span} {L : List Nat} : ∀ {k : Nat} {st : List Sty} {h : Int} {u : Span}, wayG S base t L k = some (st, h, u) → IsWay S base t L k st h u ∧ (∀ i, i < k → dupB L i = false ∧ (decide (0 < i) && barred S base (natD L i)) = false)
  | 0, st, h, u, hg => by
    cases hg
    exact ⟨⟨rfl, fun i hi => absurd hi (Nat.not_lt_zero i), fun _ => rfl, Int.le_refl _⟩, fun i hi => absurd hi (Nat.not_lt_zero i)⟩
  | k + 1, st, h, u, hg => by
    rw [wayG] at hg
    cases hp : wayG S base t L k with
    | none => rw [hp] at hg; cases hg
    | some x =>
      obtain ⟨a, b, c⟩ := x
      rw [hp] at hg
      obtain ⟨ih, ihb⟩ := wayG_is hp
      simp only at hg
      split at hg
      · cases hg
      rename_i hd
      split at hg
      · cases hg
      rename_i hb
      have hdb : ∀ i, i < k + 1 → dupB L i = false ∧ (decide (0 < i) && barred S base (natD L i)) = false := fun i hi => by
        rcases Nat.lt_or_ge i k with h1 | h1
        · exact ihb i h1
        · obtain rfl : i = k := by omega
          exact ⟨by simpa using hd, by simpa only [Bool.not_eq_true] using hb⟩
      have hrooms : ∀ (n : Int) i, i < k + 1 → (syD (a ++ [⟨(natD L k : Int), n⟩]) i).room = (natD L i : Int) := fun n i hi => by
        rcases Nat.lt_or_ge i k with h1 | h1
        · rw [syD_app (by rw [ih.len]; exact h1)]; exact ih.rooms i h1
        · obtain rfl : i = k := by omega
          have := syD_new a ⟨(natD L i : Int), n⟩
          rw [ih.len] at this; rw [this]
      split at hg
      · rename_i hlt
        split at hg
        · cases hg
        · rename_i n v hw
          cases hg
          have hpos := ih.pos
          exact ⟨⟨by simp [ih.len], hrooms _, fun _ => by rw [thrK, ih.thr (by omega)]; simp only; rw [hw], by omega⟩, hdb⟩
      · cases hg
        exact ⟨⟨by simp [ih.len], hrooms _, fun h => by omega, ih.pos⟩, hdb⟩
theorem better_spec : ∀ (ws : List (Option (List Sty × Int))) (st : Int × List Sty), (∀ l h, some (l, h) ∈ ws → 0 ≤ h) →
    (ws.foldl better st = st ∨ some ((ws.foldl better st).2, (ws.foldl better st).1) ∈ ws) ∧ (∀ l h, some (l, h) ∈ ws → 0 ≤ (ws.foldl better st).1 ∧ (ws.foldl better st).1 ≤ h) ∧ (0 ≤ st.1 → 0 ≤ (ws.foldl better st).1 ∧ (ws.foldl better st).1 ≤ st.1)
  | [], st, _ => ⟨.inl rfl, fun l h hm => (by cases hm), fun h => ⟨h, Int.le_refl _⟩⟩
  | w :: ws, st, hp => by
    obtain ⟨h1, h2, h3⟩ := better_spec ws (better st w) (fun l h hm => hp l h (List.mem_cons_of_mem _ hm))
    rw [List.foldl_cons]
    have hb : better st w = st ∨ some ((better st w).2, (better st w).1) = w := by
      cases w with
      | none => exact .inl rfl
      | some x =>
        obtain ⟨l, h⟩ := x
        unfold better; simp only
        split
        · exact .inr rfl
        · exact .inl rfl
    have hc : ∀ l h, w = some (l, h) → 0 ≤ (better st w).1 ∧ (better st w).1 ≤ h := fun l h hw => by
      have := hp l h (by rw [hw]; exact List.mem_cons_self)
      rw [hw]
      unfold better; simp only
      split
      · exact ⟨this, Int.le_refl _⟩
      · omega
    have hd : 0 ≤ st.1 → 0 ≤ (better st w).1 ∧ (better st w).1 ≤ st.1 := fun h0 => by
      cases w with
      | none => exact ⟨h0, Int.le_refl _⟩
      | some x =>
        obtain ⟨l, h⟩ := x
        have := hp l h List.mem_cons_self
        unfold better; simp only
        split
        · simp only; omega
        · omega
    refine ⟨?_, ?_, ?_⟩
    · rcases h1 with h | h
      · rcases hb with h' | h'
        · exact .inl (h.trans h')
        · rw [h]; exact .inr (by rw [h']; exact List.mem_cons_self)
      · exact .inr (List.mem_cons_of_mem _ h)
    · intro l h hm
      rcases List.mem_cons.1 hm with h' | h'
      · have := hc l h h'.symm
        have := h3 this.1
        omega
      · exact h2 l h h'
    · intro h0
      have := hd h0
      have := h3 this.1
      omega
theorem waysV_mem {n to : Nat} : ∀ {m k : Nat} {b : List (List Nat)} {L : List Nat}, k < m → L ∈ levB n to k b → endsB to L = true → L ∈ waysV n to m b
  | 0, k, b, L, hk, _, _ => absurd hk (Nat.not_lt_zero k)
  | m + 1, 0, b, L, _, hL, he => by rw [waysV_eq]; exact List.mem_append_left _ (List.mem_filter.2 ⟨hL, he⟩)
  | m + 1, k + 1, b, L, hk, hL, he => by rw [waysV_eq]; exact List.mem_append_right _ (waysV_mem (k := k) (by omega) hL he)
theorem waysV_sub {n to : Nat} : ∀ {m : Nat} {b : List (List Nat)} {L : List Nat}, L ∈ waysV n to m b → ∃ k, k < m ∧ L ∈ levB n to k b ∧ endsB to L = true
  | 0, b, L, h => by cases h
  | m + 1, b, L, h => by
    rw [waysV_eq] at h
    rcases List.mem_append.1 h with h | h
    · exact ⟨0, by omega, (List.mem_filter.1 h).1, (List.mem_filter.1 h).2⟩
    · obtain ⟨k, h1, h2, h3⟩ := waysV_sub h
      exact ⟨k + 1, by omega, h2, h3⟩
theorem desc_mem {n to : Nat} : ∀ {E P : List Nat}, (∀ x ∈ E, x < n) → (P ++ E).Nodup → (∀ j, j < E.length → natD (P ++ E) (P.length + j - 1) ≠ to) → 0 < P.length → P ++ E ∈ desc n to E.length P
  | [], P, _, _, _, _ => by rw [List.append_nil]; exact List.mem_singleton.2 rfl
  | x :: E, P, hn, hd, he, hP => by
    have h0 := he 0 (by simp)
    rw [Nat.add_zero, natD_app (by omega)] at h0
    rw [List.length_cons, desc]
    have : endsB to P = false := decide_eq_false h0
    rw [this]
    simp only [Bool.false_eq_true, if_false]
    have e : P ++ x :: E = (P ++ [x]) ++ E := by simp
    refine List.mem_flatMap.2 ⟨P ++ [x], ?_, ?_⟩
    · refine List.mem_map.2 ⟨x, List.mem_filter.2 ⟨List.mem_range.2 (hn x List.mem_cons_self), ?_⟩, rfl⟩
      have hx : x ∉ P := fun hm => by
        have := (List.nodup_append.1 hd).2.2 x hm x List.mem_cons_self
        exact this rfl
      simpa using hx
    · rw [e]
      refine desc_mem (fun y hy => hn y (List.mem_cons_of_mem _ hy)) (by rw [← e]; exact hd) (fun j hj => ?_) (by simp)
      have := he (j + 1) (by simp; omega)
      rw [← e]
      have e2 : (P ++ [x]).length + j - 1 = P.length + (j + 1) - 1 := by simp <;> omega
      rw [e2]; exact this
theorem dup_nodup {L : List Nat} (h : ∀ i, i < L.length → dupB L i = false) : L.Nodup := by
  rw [List.nodup_iff_pairwise_ne, List.pairwise_iff_getElem]
  intro i j hi hj hij he
  have := h j hj
  unfold dupB at this
  have h2 : anyF (fun k => decide (natD L k = natD L j)) j = true := anyF_iff.2 ⟨i, hij, decide_eq_true (by
    unfold natD; rw [List.getD_eq_getElem?_getD, List.getD_eq_getElem?_getD, List.getElem?_eq_getElem hi, List.getElem?_eq_getElem hj]; exact he)⟩
  rw [h2] at this; cases this
theorem natD_inj {L : List Nat} (h : ∀ i, i < L.length → dupB L i = false) {i j : Nat} (hi : i < L.length) (hj : j < L.length) (he : natD L i = natD L j) : i = j := by
  rcases Nat.lt_trichotomy i j with h1 | h1 | h1
  · have := h j hj
    unfold dupB at this
    rw [anyF_iff.2 ⟨i, h1, decide_eq_true he⟩] at this; cases this
  · exact h1
  · have := h i hi
    unfold dupB at this
    rw [anyF_iff.2 ⟨j, h1, decide_eq_true he.symm⟩] at this; cases this
theorem road_mem {S : Site} {base : Int} {L : List Nat} {fr to : Nat} (hR : Road S base L) (h1 : 1 ≤ L.length) (h5 : L.length ≤ 5) (h0 : natD L 0 = fr) (hl : natD L (L.length - 1) = to) (hn : ∀ x ∈ L, x < S.rooms.length) : L ∈ waysV S.rooms.length to 5 [[fr]] := by
  obtain ⟨a, E, rfl⟩ : ∃ a E, L = a :: E := by cases L with | nil => simp at h1 | cons a E => exact ⟨a, E, rfl⟩
  have ha : a = fr := h0
  subst ha
  refine waysV_mem (k := E.length) (by simp at h5; omega) ?_ (decide_eq_true hl)
  rw [levB_desc]
  simp only [List.flatMap_cons, List.flatMap_nil, List.append_nil]
  refine desc_mem (P := [a]) (fun x hx => hn x (List.mem_cons_of_mem _ hx)) (dup_nodup hR.dup) (fun j hj he => ?_) (by simp)
  have hne := natD_inj hR.dup (i := j) (j := (a :: E).length - 1) (by simp <;> omega) (by simp) (by rw [hl]; simpa using he)
  simp at hne <;> omega
theorem wayV_is {S : Site} {base : Int} {t : Span} {L : List Nat} {st : List Sty} {h : Int} (hw : wayV S base t L = some (st, h)) :
    (1 ≤ L.length ∧ L.length ≤ 5) ∧ Road S base L ∧ st.length = L.length ∧ (∀ i, i < L.length → (syD st i).room = (natD L i : Int)) ∧ 0 ≤ h ∧ ∃ u, thrK S t L (L.length - 1) = some (h, u) := by
  unfold wayV at hw
  split at hw
  · cases hw
  rename_i hlen
  cases hg : wayG S base t L L.length with
  | none => rw [hg] at hw; cases hw
  | some x =>
    obtain ⟨a, b, c⟩ := x
    rw [hg] at hw
    simp only [Option.map_some, Option.some.injEq, Prod.mk.injEq] at hw
    obtain ⟨rfl, rfl⟩ := hw
    obtain ⟨hi, hb⟩ := wayG_is hg
    have hR : Road S base L := ⟨fun i h => (hb i h).1, fun i h => (hb i h).2⟩
    refine ⟨by omega, hR, hi.len, hi.rooms, hi.pos, ?_⟩
    obtain ⟨m, hm⟩ : ∃ m, L.length = m + 1 := ⟨L.length - 1, by omega⟩
    rw [hm, wayG] at hg
    cases hp : wayG S base t L m with
    | none => rw [hp] at hg; cases hg
    | some y =>
      obtain ⟨a', b', c'⟩ := y
      rw [hp] at hg
      simp only at hg
      rw [hR.dup m (by omega), hR.bar m (by omega)] at hg
      simp only [Bool.false_eq_true, if_false] at hg
      rw [if_neg (by omega)] at hg
      simp only [Option.some.injEq, Prod.mk.injEq] at hg
      obtain ⟨-, rfl, rfl⟩ := hg
      have := wayG_thr hR (t := t) (k := m) (by omega)
      rw [hp] at this
      exact ⟨c', by rw [hm, Nat.add_sub_cancel, ← this]; rfl⟩
theorem best_is {S : Site} {base : Int} {t : Span} {fr to : Nat} (h : 0 ≤ (bestP S base t fr to).1) :
    ∃ L : List Nat, (1 ≤ L.length ∧ L.length ≤ 5) ∧ Road S base L ∧ (bestP S base t fr to).2.length = L.length ∧ (∀ i, i < L.length → (syD (bestP S base t fr to).2 i).room = (natD L i : Int)) ∧ (∃ u, thrK S t L (L.length - 1) = some ((bestP S base t fr to).1, u)) ∧ natD L 0 = fr ∧ natD L (L.length - 1) = to ∧ wayV S base t L = some ((bestP S base t fr to).2, (bestP S base t fr to).1) ∧ L ∈ waysV S.rooms.length to 5 [[fr]] := by
  rw [← best_same] at h ⊢
  unfold bestR at h ⊢
  have hp : ∀ l h, some (l, h) ∈ (waysV S.rooms.length to 5 [[fr]]).map (wayV S base t) → 0 ≤ h := fun l h hm => by
    obtain ⟨L, -, hL⟩ := List.mem_map.1 hm
    exact (wayV_is hL).2.2.2.2.1
  obtain ⟨h1, -, -⟩ := better_spec _ (-1, []) hp
  rcases h1 with h1 | h1
  · rw [h1] at h; simp at h
  · obtain ⟨L, hL1, hL2⟩ := List.mem_map.1 h1
    obtain ⟨a, b, c, d, e, f⟩ := wayV_is hL2
    obtain ⟨k, -, hk, he⟩ := waysV_sub hL1
    rw [levB_desc] at hk
    simp only [List.flatMap_cons, List.flatMap_nil, List.append_nil] at hk
    obtain ⟨E, rfl, -⟩ := desc_form _ _ _ _ _ hk
    exact ⟨_, a, b, c, d, f, rfl, of_decide_eq_true he, hL2, hL1⟩
theorem best_le {S : Site} {base : Int} {t : Span} {fr to : Nat} {L : List Nat} {o : Int} {u : Span} (hR : Road S base L) (h1 : 1 ≤ L.length) (h5 : L.length ≤ 5) (h0 : natD L 0 = fr) (hl : natD L (L.length - 1) = to) (hn : ∀ x ∈ L, x < S.rooms.length) (ht : thrK S t L (L.length - 1) = some (o, u)) :
    0 ≤ (bestP S base t fr to).1 ∧ (bestP S base t fr to).1 ≤ o := by
  rw [← best_same]
  unfold bestR
  have hp : ∀ l h, some (l, h) ∈ (waysV S.rooms.length to 5 [[fr]]).map (wayV S base t) → 0 ≤ h := fun l h hm => by
    obtain ⟨L, -, hL⟩ := List.mem_map.1 hm
    exact (wayV_is hL).2.2.2.2.1
  obtain ⟨-, h2, -⟩ := better_spec _ (-1, []) hp
  obtain ⟨m, hm⟩ : ∃ m, L.length = m + 1 := ⟨L.length - 1, by omega⟩
  have hw : ∃ st, wayV S base t L = some (st, o) := by
    have e := wayG_thr hR (t := t) (k := m) (by omega)
    rw [hm, Nat.add_sub_cancel] at ht
    rw [ht] at e
    cases hg : wayG S base t L m with
    | none => rw [hg] at e; cases e
    | some x =>
      obtain ⟨a, b, c⟩ := x
      rw [hg] at e
      simp only [Option.map_some, Option.some.injEq, Prod.mk.injEq] at e
      obtain ⟨rfl, rfl⟩ := e
      unfold wayV
      rw [if_neg (by omega), hm, wayG, hg]
      simp only
      rw [hR.dup m (by omega), hR.bar m (by omega)]
      simp only [Bool.false_eq_true, if_false]
      rw [if_neg (by omega)]
      exact ⟨_, rfl⟩
  obtain ⟨st, hw⟩ := hw
  exact h2 st o (List.mem_map.2 ⟨L, road_mem hR h1 h5 h0 hl hn, hw⟩)
/-! Days. -/
theorem day_temp {S : Site} {M : List Mv} {c d : Nat} : ∀ {j k : Nat}, k ≤ j → (dayJ S M c d j).tlo ≤ (ownT S M c (d * 24 + k)).lo ∧ (ownT S M c (d * 24 + k)).hi ≤ (dayJ S M c d j).thi
  | 0, k, h => by
    obtain rfl : k = 0 := by omega
    exact ⟨Int.le_refl _, Int.le_refl _⟩
  | j + 1, k, h => by
    rw [dayJ]; simp only
    rcases Nat.lt_or_ge j k with h1 | h1
    · obtain rfl : k = j + 1 := by omega
      have e : d * 24 + (j + 1) = d * 24 + j + 1 := by omega
      rw [e]; omega
    · have := day_temp (S := S) (M := M) (c := c) (d := d) h1
      omega
theorem day_damp {S : Site} {M : List Mv} {c d : Nat} : ∀ {j k : Nat}, k < j → (dayJ S M c d j).dlo ≤ (rmAt S M c ((d * 24 + k : Nat) : Int)).dlo ∧ (rmAt S M c ((d * 24 + k : Nat) : Int)).dhi ≤ (dayJ S M c d j).dhi
  | 0, k, h => absurd h (Nat.not_lt_zero k)
  | j + 1, k, h => by
    rw [dayJ]; simp only
    rcases Nat.lt_or_ge k j with h1 | h1
    · have := day_damp (S := S) (M := M) (c := c) (d := d) h1
      omega
    · obtain rfl : k = j := by omega
      omega
/-! Earlier hours do not hang on later moves. -/
theorem ownT_congr {S : Site} {M M' : List Mv} {c : Nat} : ∀ {n : Nat}, (∀ h : Nat, h < n → atV S M c (h : Int) = atV S M' c (h : Int)) → ownT S M c n = ownT S M' c n
  | 0, _ => rfl
  | n + 1, h => by rw [ownT, ownT, ownT_congr fun i hi => h i (by omega)]; unfold rmAt; rw [h n (by omega)]
theorem own_take {S : Site} {M : List Mv} (hK : Kept S M) {j n : Nat} (hj : j < M.length) (hn : (n : Int) ≤ (mvD M j).hour) (c : Nat) : ownT S M c n = ownT S (M.take j) c n :=
  ownT_congr fun h hh => take_late hK (by omega) (fun _ => by omega)
end Go.Proofs.YtkidicfpfknfoaaDoor.D
