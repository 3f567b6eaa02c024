/- The frame of a law whose walk needs the form's own reach: as XLaw's, each list that is read being no longer than memory. Over any program. -/
import Derived.Test.YtnfaafdgfafcjaaLaw
import Derived.SizedLaws
namespace Go.Fb
open Go.RowKit Go.ChangeShapes Go.WideShapes Go.ChangeAt
set_option linter.unusedVariables false
/-- The same, with more that holds of the thing. -/
def Rep.few {α : Type} (R : Rep α) (Q : α → Prop) : Rep α where
  size := R.size
  cells w B x cs := R.cells w B x cs ∧ Q x
  length h := R.length h.1
  stays hw h := ⟨R.stays hw h.1, h.2⟩
  more hB h := ⟨R.more hB h.1, h.2⟩
def OpensZ {α : Type} (P : Program) (R : Rep α) (T : TypeId) : Prop :=
  ∀ (H : Type) (enc : TypeId × Value → H) (w : World) (fuel : Nat) (cs : List Value) (y : DataW H × List MemPlace), DataW.trod enc P w 0 (fun _ => true) true fuel T cs = some y → (∀ m ∈ DataW.weights P T y.1, m ≤ reachBytes) → ∃ x, R.cells w w.heap.size x cs
theorem Opens.z {α : Type} {P : Program} {R : Rep α} {T : TypeId} (h : Opens P R T) : OpensZ P R T := fun H enc w fuel cs y hy _ => h H enc w fuel cs y hy
theorem weightsAll_mem {H : Type} {P : Program} {e : TypeId} : ∀ {l : List (DataW H)} {d : DataW H}, d ∈ l → ∀ n ∈ d.weights P e, n ∈ DataW.weightsAll P e l
  | d' :: r, d, hd, n, hn => by
    simp only [DataW.weightsAll, List.mem_append]
    rcases List.mem_cons.1 hd with rfl | h
    · exact Or.inl hn
    · exact Or.inr (weightsAll_mem h n hn)
theorem opensZ_slice {α : Type} {P : Program} {T E : TypeId} {R : Rep α} (ht : P.underlying T = some (.slice E)) (hE : P.cellsOf E = R.size) (hpos : 0 < R.size) (h : OpensZ P R E) : OpensZ P (R.slice.few fun l => l.length * P.bytesOf E ≤ reachBytes) T := by
  intro H enc w fuel cs y hy hz
  rcases Go.Deep.open_slice ht hy with ⟨rfl, _⟩ | ⟨a, len, cap, m, n, D, Pl, rfl, _, hl, hm, hmm, hyy, hx⟩
  · exact ⟨[], ⟨none, 0, 0, rfl, SliceOf.nil R w _⟩, by simp⟩
  · have hml : len ≤ m := by rw [hmm]; split <;> omega
    have hy1 : y.1 = .slice ((List.range len).map D) ((List.range (m - len)).map fun i => D (len + i)) ∨ ∃ sp, y.1 = .slice ((List.range len).map D) sp := by
      subst hyy; exact .inr ⟨_, rfl⟩
    obtain ⟨sp, hy1⟩ : ∃ sp, y.1 = .slice ((List.range len).map D) sp := by
      rcases hy1 with h | h
      · exact ⟨_, h⟩
      · exact h
    rw [hy1] at hz
    simp only [DataW.weights, ht, List.mem_cons, List.mem_append] at hz
    have hb : len * P.bytesOf E ≤ reachBytes := by
      have := hz _ (.inl rfl)
      rw [List.length_map, List.length_range, Nat.add_mul] at this
      omega
    have hex : ∀ i, i < len → ∃ x cs', w.cells? 0 (a.add (i * P.cellsOf E)) (P.cellsOf E) = some cs' ∧ R.cells w w.heap.size x cs' := by
      intro i hi
      obtain ⟨cs', h1, h2⟩ := hx i (by omega)
      obtain ⟨x, hx⟩ := h H enc w n cs' _ h2 (fun m hm => hz m (.inr (.inl (weightsAll_mem (List.mem_map_of_mem (List.mem_range.2 hi)) m hm))))
      exact ⟨x, cs', h1, hx⟩
    by_cases h0 : len = 0
    · subst h0
      exact ⟨[], ⟨some a, 0, cap, rfl, rfl, Nat.zero_le _, hm, .inl rfl⟩, by simp⟩
    · have hinh : ∃ x : α, True := by obtain ⟨x, _⟩ := hex 0 (by omega); exact ⟨x, trivial⟩
      obtain ⟨x0, _⟩ := hinh
      have hch := Go.Deep.choose_lt (α := Option α) (n := len) (p := fun i x => ∃ y cs', x = some y ∧ w.cells? 0 (a.add (i * P.cellsOf E)) (P.cellsOf E) = some cs' ∧ R.cells w w.heap.size y cs')
        (fun i hi => by obtain ⟨x, cs', h1, h2⟩ := hex i hi; exact ⟨some x, x, cs', rfl, h1, h2⟩)
      obtain ⟨f, hf⟩ := hch
      have hspot : a.spot = none ∧ a.block < w.heap.size := by
        obtain ⟨y, cs', _, h1, h2⟩ := hf 0 (by omega)
        obtain ⟨_, hlen, hat⟩ := World.cells?_some h1
        have := hat 0 (by rw [hE]; exact hpos)
        rw [List.getElem?_eq_getElem (by rw [R.length h2]; exact hpos)] at this
        have e : ((a.add (0 * P.cellsOf E)).add 0) = a := by rw [Nat.zero_mul]; rfl
        rw [e] at this
        exact ⟨(lt_of_cell this).2, (lt_of_cell this).1⟩
      obtain ⟨b, o, s⟩ := a
      obtain ⟨hs, hbb⟩ := hspot
      simp only at hs hbb
      subst hs
      refine ⟨(List.range len).map fun i => (f i).getD x0, ⟨some ⟨b, o, none⟩, len, cap, rfl, by simp, hl, hm, .inr ⟨b, o, rfl, hbb, fun i hi => ?_⟩⟩, by simpa using hb⟩
      have hi' : i < len := by simpa using hi
      obtain ⟨y, cs', e, h1, h2⟩ := hf i hi'
      obtain ⟨_, hlen, hat⟩ := World.cells?_some h1
      refine ⟨cs', fun j hj => ?_, ?_⟩
      · have := hat j (by rw [hE]; exact hj)
        rw [add_eq, add_eq, hE] at this
        exact this
      · simpa [e] using h2
def OpensAtZ {α : Type} (P : Program) (R : Rep α) (fs : List Field) (off : Nat) : Prop :=
  ∀ (H : Type) (enc : TypeId × Value → H) (w : World) (fuel : Nat) (cs : List Value),
    (∀ f ∈ fs, ∃ y, DataW.trod enc P w 0 (fun _ => true) true fuel f.type ((cs.drop f.offset).take (P.cellsOf f.type)) = some y ∧ ∀ m ∈ DataW.weights P f.type y.1, m ≤ reachBytes) →
    ∃ x, R.cells w w.heap.size x ((cs.drop off).take R.size)
theorem opensAtZ_nil {P : Program} {off : Nat} : OpensAtZ P Rep.unit [] off := fun _ _ _ _ cs _ => ⟨(), by simp [Rep.unit]⟩
theorem opensAtZ_cons {α β : Type} {P : Program} {R : Rep α} {S : Rep β} {f : Field} {fs : List Field} {off : Nat} (ho : f.offset = off) (hc : P.cellsOf f.type = R.size) (h : OpensZ P R f.type) (hs : OpensAtZ P S fs (off + R.size)) :
    OpensAtZ P (R.pair S) (f :: fs) off := by
  intro H enc w fuel cs hf
  obtain ⟨y, hy, hz⟩ := hf f (by simp)
  obtain ⟨x, hx⟩ := h H enc w fuel _ y hy hz
  obtain ⟨z, hz⟩ := hs H enc w fuel cs (fun g hg => hf g (by simp [hg]))
  refine ⟨(x, z), _, _, ?_, by rw [ho, hc] at hx; exact hx, hz⟩
  show (cs.drop off).take (R.size + S.size) = _
  rw [List.take_add, List.drop_drop]
theorem opensZ_struct {α : Type} {P : Program} {T : TypeId} {fs : Array Field} {R : Rep α} (ht : P.underlying T = some (.struct fs)) (hC : P.cellsOf T = R.size) (h : OpensAtZ P R fs.toList 0) : OpensZ P R T := by
  intro H enc w fuel cs y hy hz
  obtain ⟨xs, n, hn, hy1, hlen, hsz, hf⟩ := DataW.trod_struct ht hy
  have hy2 : y.1 = .agg (xs.map (·.1)) := by first | (rw [hy1]; done) | (rw [hn]; done) | (subst hy1; rfl) | (subst hn; rfl) | simp_all
  rw [hy2] at hz
  simp only [DataW.weights, ht] at hz
  obtain ⟨x, hx⟩ := h H enc w n cs (fun f hfm => by
    obtain ⟨i, hi, e⟩ := List.mem_iff_getElem.1 hfm
    have hi' : i < fs.size := by simpa using hi
    have := hf i f (by rw [Array.getElem?_eq_getElem hi']; simpa using e)
    rw [List.getElem?_eq_getElem (by omega)] at this
    refine ⟨_, this, fun m hm => hz m ?_⟩
    refine DataW.weights_mem_each (t := f.type) (d := (xs[i]'(by omega)).1) (j := i) ?_ ?_ m hm
    · rw [List.getElem?_map, List.getElem?_eq_getElem hi, e]; rfl
    · rw [List.getElem?_map, List.getElem?_eq_getElem (by omega)]; rfl)
  refine ⟨x, ?_⟩
  rw [List.drop_zero, List.take_of_length_le (by omega)] at hx
  exact hx
/-- A law's own step, each argument's weights within reach. -/
theorem law_sized {C : Checked} {os : Os} (started : os.Started) {H : Type} {enc : TypeId × Value → H} {s : ChangeSpec} {k : FuncId} {fn : Func} {T : TypeId}
    (own : ownKnob C.prog.godebug = none) (noInit : C.prog.inits.idxOf? k = none) (hfn : C.prog.funcs[k]? = some fn)
    (witness : ∃ (w : World) (tape : Tape) (i : Input), w.os = os ∧ (w.forCall tape i).Shaped C.prog ∧ i.vars = [] ∧ Input.okWide C.prog (w.forCall tape i) .any w.heap.size k i ∧
      s.pre6 enc C.prog fn [] false (w.forCall tape i).memory i.args ∧ ({} : Assume).holds C.prog (lone (Frame.enter C.prog k i.args .normal) [] (w.forCall tape i)))
    (hl : laidOutB C.prog = true) (hr : ∀ t ∈ fn.params.toList, C.prog.readableRec t = true ∧ t < C.prog.types.size) (hres : fn.resultTypes = #[T]) (hT : C.prog.underlying T = some .bool) (hv : s.vars = []) (hs : SaysTrue s fn.params.size)
    (walk : ∀ (W : World) (args : Array Value), (∀ (j : Nat) t v, fn.params[j]? = some t → args[j]? = some v → (∃ base, Value.okWide C.prog W .any base t v) ∧ ∃ d p, DataW.Trod enc C.prog W 0 (fun _ => true) true t v d p ∧ ∀ m ∈ DataW.weights C.prog t d, m ≤ reachBytes) → args.size = fn.params.size →
      Calls C.prog k args W fun e W' => e = .returned (.bool true) ∧ Below W.heap.size W W') :
    ReturnsInHanded {} C os k .any (s.pre6 enc C.prog fn [] false) (s.post enc C.prog fn false true false false) := by
  refine returnsInHanded_of_change_sized own started noInit hfn witness ?_
  intro W base args ds gs before hval hW _ hsz _
  have hW' := hW
  obtain ⟨p, q, hA, hV, rfl, hfz, hnd⟩ := hW
  have hlen := (trodAll_length _ _ _ _ hA).2
  refine (walk W args (fun j t v ht hv => ⟨⟨base, hval j t v ht hv⟩, ?_⟩) (by simpa using hlen)).mono fun e W' ⟨he, hb⟩ => ⟨_, he, law_post hl hr hres hT hv hs hW' hb⟩
  have key : ∀ (ts : List TypeId) (vs : List Value) (ds : List (DataW H)) (ps : List MemPlace) (j : Nat), DataW.TrodAll enc C.prog W 0 (fun _ => true) true ts vs ds ps → ts[j]? = some t → vs[j]? = some v →
      ∃ d p, DataW.Trod enc C.prog W 0 (fun _ => true) true t v d p ∧ ds[j]? = some d := by
    intro ts
    induction ts with
    | nil => intro vs ds ps j h hj; simp at hj
    | cons t' ts ih =>
      intro vs ds ps j h hj hk
      obtain ⟨v', vs', d, ds', p, q, rfl, rfl, rfl, h1, h2⟩ := trodAll_cons h
      cases j with
      | zero =>
        simp only [List.getElem?_cons_zero, Option.some.injEq] at hj hk
        subst hj; subst hk
        exact ⟨d, p, h1, by simp⟩
      | succ j =>
        obtain ⟨d', p', g1, g2⟩ := ih vs' ds' q j h2 (by simpa using hj) (by simpa using hk)
        exact ⟨d', p', g1, by simpa using g2⟩
  obtain ⟨d, p', g1, g2⟩ := key _ _ _ _ j hA (by simpa using ht) (by simpa using hv)
  refine ⟨d, p', g1, fun m hm => ?_⟩
  have hjl : j < fn.params.toList.length := by
    have := (List.getElem?_eq_some_iff.1 (by simpa using ht : fn.params.toList[j]? = some t)).1
    exact this
  refine of_decide_eq_true (List.all_eq_true.1 hsz m (DataW.weights_mem_each (t := t) (d := d) (j := j) ?_ ?_ m hm))
  · rw [List.getElem?_append_left hjl]; simpa using ht
  · have : j < ds.length := (List.getElem?_eq_some_iff.1 g2).1
    rw [List.getElem?_append_left this]; exact g2
theorem arg_structZ {H : Type} {enc : TypeId × Value → H} {P : Program} {W : World} {t : TypeId} {v : Value} {base : Nat} {d : DataW H} {p : List MemPlace} {α : Type} {R : Rep α} {fs : Array Field} (ht : P.underlying t = some (.struct fs)) (ho : OpensZ P R t)
    (h : DataW.Trod enc P W 0 (fun _ => true) true t v d p) (hv : Value.okWide P W .any base t v) (hz : ∀ m ∈ DataW.weights P t d, m ≤ reachBytes) : ∃ cs x, v = .agg cs ∧ R.cells W W.heap.size x cs.toList := by
  obtain ⟨fuel, hf⟩ := h
  obtain ⟨cs, rfl, _⟩ := okWide_struct ht hv
  obtain ⟨x, hx⟩ := ho H enc W fuel _ _ hf hz
  exact ⟨cs, x, rfl, hx⟩
end Go.Fb
