/-
  How long the texts of a font's glyphs are, by the form's reach.
-/
import Derived.Test.YtahgbecfaihfpaaDoorTArgM
import Derived.SizedLaws
namespace Go.Proofs.YtahgbecfaihfpaaDoor
open Go.RowKit Go.Deep Go.WideShapes D
set_option linter.unusedVariables false
set_option maxRecDepth 100000
section
variable {H : Type} {enc : TypeId × Value → H} {w : World} {base : Nat} {sp : Nat → Bool} {held : Bool} {fuel : Nat} {cs : List Value} {x : DataW H × List MemPlace} {P : Program}
theorem mem_weightsAll {e : TypeId} : ∀ {l : List (DataW H)} {d : DataW H}, d ∈ l → ∀ n ∈ d.weights P e, n ∈ DataW.weightsAll P e l
  | [], _, h, _, _ => by cases h
  | d' :: l, d, h, n, hn => by
    rw [DataW.weightsAll, List.mem_append]
    rcases List.mem_cons.1 h with rfl | h
    · exact .inl hn
    · exact .inr (mem_weightsAll h n hn)
theorem struct_sized {fs : Array Field} {t : TypeId} {xs : List (DataW H × List MemPlace)} (ht : P.underlying t = some (.struct fs)) (hw : ∀ n ∈ (DataW.agg (xs.map (·.1))).weights P t, n ≤ reachBytes) {j : Nat} {f : Field} {y : DataW H × List MemPlace} (hf : fs[j]? = some f) (hy : xs[j]? = some y) : ∀ n ∈ y.1.weights P f.type, n ≤ reachBytes := fun n hn => by
  refine hw n ?_
  rw [DataW.weights]
  rw [ht]
  exact DataW.weights_mem_each (j := j) (by simp [hf]) (by rw [List.getElem?_map, hy]; rfl) n hn
theorem slice_cellsZ {t e : TypeId} {m : Nat} (ht : P.underlying t = some (.slice e)) (he : P.cellsOf e = m) (hm : 0 < m) (h : DataW.trod enc P w base sp held fuel t cs = some x) (hw : ∀ n ∈ x.1.weights P t, n ≤ reachBytes) :
    ∃ (s : Sl) (n : Nat), cs = [.slice s.a n s.cap] ∧ ∀ i, i < n → ∃ (b off fuel' : Nat) (cs' : List Value) (y : DataW H × List MemPlace), s.a = some ⟨b, off, none⟩ ∧ DataW.trod enc P w base sp held fuel' e cs' = some y ∧ (∀ k ∈ y.1.weights P e, k ≤ reachBytes) ∧ ∀ j, j < m → w.cell? ⟨b, off + i * m + j, none⟩ = cs'[j]? := by
  rcases open_slice ht h with ⟨rfl, -⟩ | ⟨a, len, cap, mm, k, D, Pl, rfl, -, hlc, hcm, hmm, rfl, hel⟩
  · exact ⟨⟨none, 0⟩, 0, rfl, fun i hi => absurd hi (Nat.not_lt_zero i)⟩
  · have hmm' : len ≤ mm := by rw [hmm]; split <;> omega
    refine ⟨⟨some a, cap⟩, len, rfl, fun i hi => ?_⟩
    obtain ⟨cs', hc, ht'⟩ := hel i (by omega)
    rw [he] at hc
    obtain ⟨-, hlen, h1⟩ := World.cells?_some hc
    obtain ⟨b, off, spot⟩ := a
    have hspot : spot = none := by
      obtain ⟨cs0, hc0, -⟩ := hel 0 (by omega)
      rw [he] at hc0
      obtain ⟨-, hl0, h10⟩ := World.cells?_some hc0
      have h2 := h10 0 hm
      rw [List.getElem?_eq_getElem (by omega)] at h2
      simpa [Addr.add] using World.cell?_spot h2
    subst hspot
    refine ⟨b, off, k, cs', _, rfl, ht', fun q hq => hw q ?_, fun j hj => ?_⟩
    · rw [DataW.weights]
      rw [ht]
      refine List.mem_cons_of_mem _ (List.mem_append_left _ (mem_weightsAll (d := D i) ?_ q hq))
      exact List.mem_map.2 ⟨i, List.mem_range.2 hi, rfl⟩
    · rw [← h1 j hj, Go.Deep.add_add, add_plain, Nat.add_assoc]
theorem glyph_sized (h : DataW.trod enc Tryd.prog w base sp held fuel 41 cs = some x) (hw : ∀ n ∈ x.1.weights Tryd.prog 41, n ≤ reachBytes) : ∃ t : ByteArray, cs[0]? = some (.string t) ∧ t.size ≤ reachBytes := by
  obtain ⟨xs, k, -, rfl, hl, hxl, hx⟩ := DataW.trod_struct Tryd.underlying41 h
  rw [cGly] at hl
  obtain ⟨c0, c1, c2, rfl⟩ := list3 hl
  have g : ∀ j, j < xs.length → ∃ y, xs[j]? = some y := fun j hj => ⟨_, List.getElem?_eq_getElem hj⟩
  have hn : xs.length = 3 := hxl
  obtain ⟨y0, g0⟩ := g 0 (by omega)
  have h0 : DataW.trod enc Tryd.prog w base sp held k 9 (List.take (Tryd.prog.cellsOf 9) (List.drop 0 [c0, c1, c2])) = some y0 := (hx 0 _ rfl).trans g0
  rw [cStr] at h0
  have h0 : DataW.trod enc Tryd.prog w base sp held k 9 [c0] = some y0 := h0
  obtain ⟨t, e0, rfl, ht⟩ := DataW.trod_string Tryd.underlying9 h0
  simp only [List.cons.injEq, and_true] at e0
  have h1 := struct_sized Tryd.underlying41 hw (j := 0) rfl g0 t.data.toList.length (by simp [DataW.weights])
  refine ⟨t, by rw [e0]; rfl, ?_⟩
  have h2 : t.data.toList.length = t.size := Array.length_toList
  omega
theorem font_sized {F : Font} {s : FSl} (h : DataW.trod enc Tryd.prog w base sp held fuel 25 [.int .i64 F.high, .int .i64 F.space, .slice s.g.a F.glyphs.length s.g.cap, .slice s.k.a F.kerns.length s.k.cap] = some x) (hw : ∀ n ∈ x.1.weights Tryd.prog 25, n ≤ reachBytes) (hF : FontAt w F s) :
    ∀ i, i < F.glyphs.length → (glD F.glyphs i).text.size ≤ 140737488355328 := fun i hi => by
  obtain ⟨xs, k, -, rfl, hl, hxl, hx⟩ := DataW.trod_struct Tryd.underlying25 h
  have g : ∀ j, j < xs.length → ∃ y, xs[j]? = some y := fun j hj => ⟨_, List.getElem?_eq_getElem hj⟩
  have hn : xs.length = 4 := hxl
  obtain ⟨y2, g2⟩ := g 2 (by omega)
  have h2 : DataW.trod enc Tryd.prog w base sp held k 22 (List.take (Tryd.prog.cellsOf 22) (List.drop 2 [.int .i64 F.high, .int .i64 F.space, .slice s.g.a F.glyphs.length s.g.cap, .slice s.k.a F.kerns.length s.k.cap])) = some y2 := (hx 2 _ rfl).trans g2
  rw [cGlys] at h2
  have h2 : DataW.trod enc Tryd.prog w base sp held k 22 [.slice s.g.a F.glyphs.length s.g.cap] = some y2 := h2
  have hw2 := struct_sized Tryd.underlying25 hw (j := 2) rfl g2
  obtain ⟨s', n', e2, hel⟩ := slice_cellsZ Tryd.underlying22 cGly (by omega) h2 hw2
  simp only [List.cons.injEq, and_true] at e2
  have ea : s.g.a = s'.a := by injection e2
  have en : F.glyphs.length = n' := by injection e2
  obtain ⟨b, off, f', cs', y, ha, ht, hwy, hc⟩ := hel i (by omega)
  obtain ⟨t, e3, hts⟩ := glyph_sized ht hwy
  obtain ⟨b', off', ha', c0, -, -⟩ := gl_cells hF.gls.gl hi
  rw [ea, ha] at ha'
  obtain ⟨rfl, rfl⟩ : b = b' ∧ off = off' := by simpa using ha'
  have h4 := hc 0 (by omega)
  rw [Nat.add_zero, c0, e3] at h4
  have h5 : (glD F.glyphs i).text = t := by simpa using h4
  rw [h5]
  exact Nat.le_trans hts (Nat.le_of_lt reachBytes_lt)
end
section
variable {H : Type} {enc : TypeId × Value → H}
theorem handed_and_sized {a : Assume} {C : Checked} {os : Os} {f : FuncId} {fn : Func} {s : ChangeSpec} {conds : List PathCond} {apart fresh handsOn again : Bool} {X : World → Array Value → Prop}
    (own : ownKnob C.prog.godebug = none) (started : os.Started) (noInit : C.prog.inits.idxOf? f = none) (hfn : C.prog.funcs[f]? = some fn)
    (witness : ∃ (w : World) (tape : Tape) (i : Input), w.os = os ∧ (w.forCall tape i).Shaped C.prog ∧ i.vars = [] ∧ Input.okWide C.prog (w.forCall tape i) .any w.heap.size f i ∧
      ((s.pre enc C.prog fn conds apart (w.forCall tape i).memory i.args ∧ X (w.forCall tape i).memory i.args) ∧ sizedMet enc C.prog fn (OpenSpec.ofChange s) apart (w.forCall tape i).memory i.args) ∧ a.holds C.prog (lone (Frame.enter C.prog f i.args .normal) [] (w.forCall tape i)))
    (contract : ∀ (W : World) (base : Nat) (args : Array Value) (ds gs : List (DataW H)) (before : List MemPlace),
      (∀ (j : Nat) t v, fn.params[j]? = some t → args[j]? = some v → Value.okWide C.prog W .any base t v) →
      DataW.Whole enc C.prog fn.params.toList s.vars apart W args.toList ds gs before →
      W.ShapedOpen C.prog →
      (∃ ds' gs' before', DataW.Whole enc C.prog fn.params.toList (OpenSpec.ofChange s).vars apart W args.toList ds' gs' before' ∧ (DataW.weightsEach C.prog (fn.params.toList ++ (OpenSpec.ofChange s).bare.plain.varTypes C.prog) (ds' ++ gs')).all (· ≤ reachBytes) = true) →
      Calls C.prog f args W fun e W' => ∃ v, e = .returned v ∧ s.post enc C.prog fn apart fresh handsOn again W args v W') :
    ReturnsInHanded a C os f .any (fun w args => (s.pre enc C.prog fn conds apart w args ∧ X w args) ∧ sizedMet enc C.prog fn (OpenSpec.ofChange s) apart w args) (s.post enc C.prog fn apart fresh handsOn again) := by
  refine returnsInHanded_of_calls own started noInit witness ?_
  intro w tape i _ hsh _ hok hpre hholds
  obtain ⟨_, _, _, fn', hfn', _, _, _, _, hval⟩ := hok
  have e : fn' = fn := Option.some.inj (hfn'.symm.trans hfn)
  subst e
  obtain ⟨⟨⟨ds, gs, before, hw, hc⟩, hx⟩, hz⟩ := hpre
  obtain ⟨-, ds', gs', before', hz1, hz2⟩ := hz
  have hw' := DataW.Whole.of_heap (w' := w.forCall tape i) (by rfl) hw
  have hz' := DataW.Whole.of_heap (w' := w.forCall tape i) (by rfl) hz1
  refine (contract (w.forCall tape i) w.heap.size i.args ds gs before hval hw' hsh ⟨ds', gs', before', hz', hz2⟩).mono fun e W' ⟨v, he, hp⟩ => ?_
  subst he
  exact ChangeSpec.post_blind hp
end
end Go.Proofs.YtahgbecfaihfpaaDoor
