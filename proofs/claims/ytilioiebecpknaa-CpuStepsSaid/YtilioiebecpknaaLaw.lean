/- The frame of a law: from 'it returns true, and nothing that was there has turned' to the row. Over any program. -/
import Derived.Test.YtilioiebecpknaaMem
import Derived.ProofKit
import Derived.OpenShut
namespace Go.Fb
open Go.RowKit Go.ChangeShapes Go.WideShapes Go.ChangeAt

theorem trodAll_below {H : Type} {enc : TypeId × Value → H} {P : Program} (hl : laidOutB P = true) {W W' : World} (hb : Below W.heap.size W W') :
    ∀ (ts : List TypeId) (vs : List Value) (ds : List (DataW H)) (ps : List MemPlace), (∀ t ∈ ts, P.readableRec t = true ∧ t < P.types.size) → (∀ x ∈ ps, x.block < W.heap.size) →
      DataW.TrodAll enc P W 0 (fun _ => true) true ts vs ds ps → DataW.TrodAll enc P W' 0 (fun b => decide (b < W.heap.size)) true ts vs ds ps
  | [], _, _, _, _, _, h => by obtain ⟨rfl, rfl, rfl⟩ := trodAll_nil h; exact trodAll_mk0
  | t :: ts, _, _, _, hr, hlt, h => by
    obtain ⟨v, vs', d, ds', p, q, rfl, rfl, rfl, h1, h2⟩ := trodAll_cons h
    exact trodAll_cons_mk (Below.trod hl (hr t (by simp)).1 (hr t (by simp)).2 h1 hb (fun x hx => hlt x (by simp [hx])))
      (trodAll_below hl hb ts vs' ds' q (fun t' ht' => hr t' (by simp [ht'])) (fun x hx => hlt x (by simp [hx])) h2)

theorem trodAll_length {H : Type} {enc : TypeId × Value → H} {P : Program} {W : World} :
    ∀ (ts : List TypeId) (vs : List Value) (ds : List (DataW H)) (ps : List MemPlace), DataW.TrodAll enc P W 0 (fun _ => true) true ts vs ds ps → ds.length = ts.length ∧ vs.length = ts.length
  | [], _, _, _, h => by obtain ⟨rfl, rfl, rfl⟩ := trodAll_nil h; exact ⟨rfl, rfl⟩
  | t :: ts, _, _, _, h => by
    obtain ⟨v, vs', d, ds', p, q, rfl, rfl, rfl, h1, h2⟩ := trodAll_cons h
    obtain ⟨e1, e2⟩ := trodAll_length ts vs' ds' q h2
    exact ⟨by simp [e1], by simp [e2]⟩

/-- What a law's specification says: true, and each argument as it was. -/
def SaysTrue (s : ChangeSpec) (n : Nat) : Prop :=
  ∀ (H : Type) (ds : List (DataW H)), ds.length = n → (s.fn H ds).results = [.lit (.bool true)] ∧ (s.fn H ds).args = ds ∧ (s.fn H ds).vars = []

theorem law_post {H : Type} {enc : TypeId × Value → H} {P : Program} {f : Func} {s : ChangeSpec} {W W' : World} {args : Array Value} {ds gs : List (DataW H)} {before : List MemPlace} {T : TypeId}
    (hl : laidOutB P = true) (hr : ∀ t ∈ f.params.toList, P.readableRec t = true ∧ t < P.types.size) (hres : f.resultTypes = #[T]) (hT : P.underlying T = some .bool) (hv : s.vars = []) (hs : SaysTrue s f.params.size)
    (hW : DataW.Whole enc P f.params.toList s.vars false W args.toList ds gs before) (hb : Below W.heap.size W W') : s.post enc P f false true false false W args (.bool true) W' := by
  have hW' := hW
  obtain ⟨p, q, hA, hV, rfl, hfz, hnd⟩ := hW
  rw [hv] at hV
  obtain ⟨rfl, rfl⟩ := trodVars_none hV
  obtain ⟨e1, e2⟩ := trodAll_length _ _ _ _ hA
  obtain ⟨r1, r2, r3⟩ := hs H ds (by rw [e1]; simp)
  have hlt : ∀ x ∈ p, x.block < W.heap.size := fun x hx => hW'.lt x (by simp [hx])
  refine ⟨ds, [], p ++ [], [], p, [], hW', ?_, ?_, ?_, hb.frame _, fun h => by cases h⟩
  · rw [List.append_nil, r1, hres]
    exact trodAll_cons_mk (shut_bool hT _) trodAll_mk0
  · rw [List.append_nil, r2]
    exact trodAll_below hl hb _ _ _ _ hr hlt hA
  · rw [List.append_nil, r3, hv]; rfl

/-- A law's own step: the walk, over whatever the arguments read as. -/
theorem law_lifted {C : Checked} {os : Os} (started : os.Started) {H : Type} {enc : TypeId × Value → H} {s : ChangeSpec} {k : FuncId} {fn : Func} {T : TypeId}
    (own : ownKnob C.prog.godebug = none) (noInit : C.prog.inits.idxOf? k = none) (hfn : C.prog.funcs[k]? = some fn)
    (witness : ∃ (w : World) (tape : Tape) (i : Input), w.os = os ∧ (w.forCall tape i).Shaped C.prog ∧ i.vars = [] ∧ Input.okWide C.prog (w.forCall tape i) .any w.heap.size k i ∧
      s.pre6 enc C.prog fn [] false (w.forCall tape i).memory i.args ∧ ({} : Assume).holds C.prog (lone (Frame.enter C.prog k i.args .normal) [] (w.forCall tape i)))
    (hl : laidOutB C.prog = true) (hr : ∀ t ∈ fn.params.toList, C.prog.readableRec t = true ∧ t < C.prog.types.size) (hres : fn.resultTypes = #[T]) (hT : C.prog.underlying T = some .bool) (hv : s.vars = []) (hs : SaysTrue s fn.params.size)
    (walk : ∀ (W : World) (args : Array Value), (∀ (j : Nat) t v, fn.params[j]? = some t → args[j]? = some v → (∃ base, Value.okWide C.prog W .any base t v) ∧ ∃ d p, DataW.Trod enc C.prog W 0 (fun _ => true) true t v d p) → args.size = fn.params.size →
      Calls C.prog k args W fun e W' => e = .returned (.bool true) ∧ Below W.heap.size W W') :
    ReturnsInHanded {} C os k .any (s.pre6 enc C.prog fn [] false) (s.post enc C.prog fn false true false false) := by
  refine returnsInHanded_of_change own started noInit hfn witness ?_
  intro W base args ds gs before hval hW _ _
  have hW' := hW
  obtain ⟨p, q, hA, hV, rfl, hfz, hnd⟩ := hW
  have hlen := (trodAll_length _ _ _ _ hA).2
  refine (walk W args (fun j t v ht hv => ⟨⟨base, hval j t v ht hv⟩, ?_⟩) (by simpa using hlen)).mono fun e W' ⟨he, hb⟩ => ⟨_, he, law_post hl hr hres hT hv hs hW' hb⟩
  have key : ∀ (ts : List TypeId) (vs : List Value) (ds : List (DataW H)) (ps : List MemPlace) (j : Nat), DataW.TrodAll enc C.prog W 0 (fun _ => true) true ts vs ds ps → ts[j]? = some t → vs[j]? = some v →
      ∃ d p, DataW.Trod enc C.prog W 0 (fun _ => true) true t v d p := by
    intro ts
    induction ts with
    | nil => intro vs ds ps j h hj; simp at hj
    | cons t' ts ih =>
      intro vs ds ps j h hj hk
      obtain ⟨v', vs', d, ds', p, q, rfl, rfl, rfl, h1, h2⟩ := trodAll_cons h
      cases j with
      | zero =>
        simp only [List.getElem?_cons_zero, Option.some.injEq] at hj hk
        subst hj; subst hk
        exact ⟨d, p, h1⟩
      | succ j => exact ih vs' ds' q j h2 (by simpa using hj) (by simpa using hk)
  exact key _ _ _ _ j hA (by simpa using ht) (by simpa using hv)

/-! ### Arguments, by their types -/
section
variable {H : Type} {enc : TypeId × Value → H} {P : Program} {W : World} {t : TypeId} {v : Value} {base : Nat} {d : DataW H} {p : List MemPlace}
theorem arg_int {k : IntKind} (ht : P.underlying t = some (.int k)) (h : DataW.Trod enc P W 0 (fun _ => true) true t v d p) (hv : Value.okWide P W .any base t v) : ∃ n, v = .int k n ∧ (Lit.int k n).wf = true := by
  obtain ⟨n, e, _, _, w⟩ := open_int ht hv h
  exact ⟨n, e, w⟩
theorem arg_bool (ht : P.underlying t = some .bool) (h : DataW.Trod enc P W 0 (fun _ => true) true t v d p) (hv : Value.okWide P W .any base t v) : ∃ b, v = .bool b := by
  obtain ⟨b, e, _⟩ := open_bool ht hv h
  exact ⟨b, e⟩
theorem arg_slice {α : Type} {R : Rep α} {E : TypeId} (ht : P.underlying t = some (.slice E)) (hE : P.cellsOf E = R.size) (hpos : 0 < R.size) (ho : Opens P R E)
    (h : DataW.Trod enc P W 0 (fun _ => true) true t v d p) (hv : Value.okWide P W .any base t v) : ∃ A n c l, v = .slice A n c ∧ SliceOf R W W.heap.size A n c l := by
  obtain ⟨fuel, hf⟩ := h
  obtain ⟨A, n, c, rfl⟩ := okWide_slice ht hv
  obtain ⟨l, A', n', c', e, hs⟩ := opens_slice ht hE hpos ho H enc W fuel _ _ hf
  simp only [Value.cells, List.cons.injEq, Value.slice.injEq, and_true] at e
  obtain ⟨rfl, rfl, rfl⟩ := e
  exact ⟨_, _, _, l, rfl, hs⟩
theorem arg_struct {α : Type} {R : Rep α} {fs : Array Field} (ht : P.underlying t = some (.struct fs)) (ho : Opens P R t)
    (h : DataW.Trod enc P W 0 (fun _ => true) true t v d p) (hv : Value.okWide P W .any base t v) : ∃ cs x, v = .agg cs ∧ R.cells W W.heap.size x cs.toList := by
  obtain ⟨fuel, hf⟩ := h
  obtain ⟨cs, rfl, _⟩ := okWide_struct ht hv
  obtain ⟨x, hx⟩ := ho H enc W fuel _ _ hf
  exact ⟨cs, x, rfl, hx⟩
end
end Go.Fb
