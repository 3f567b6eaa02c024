/- The frame of a law's second form ('..UptoSaid'): as XLaw's, the arguments being of small bulk. -/
import Derived.Test.YtjjlemkmdldljaaRows
import Derived.Test.YtjjlemkmdldljaaLaw
import Derived.JoinedCond
namespace Go.Proofs.Ytjjlemkmdldljaa.Up
open Go.RowKit Go.Fb Go.ChangeShapes Go.WideShapes Go.ChangeAt
theorem one_le {H : Type} (d : DataW H) : 1 ≤ Rows.uptoBulk d := by
  cases d with
  | lit l => cases l <;> simp [Rows.uptoBulk]
  | nil => simp [Rows.uptoBulk]
  | ptr d => simp [Rows.uptoBulk]
  | slice elems spare => simp [Rows.uptoBulk]
  | agg parts => simp [Rows.uptoBulk]
  | iface t d => simp [Rows.uptoBulk]
  | map entries => simp [Rows.uptoBulk]
  | held h => simp [Rows.uptoBulk]
theorem length_le {H : Type} (l : List (DataW H)) : l.length ≤ Rows.uptoBulkAll l := by
  induction l with
  | nil => simp [Rows.uptoBulkAll]
  | cons x r ih => have := one_le x; simp only [Rows.uptoBulkAll, List.length_cons]; omega
theorem part_le {H : Type} {d : DataW H} {l : List (DataW H)} (h : d ∈ l) : Rows.uptoBulk d ≤ Rows.uptoBulkAll l := by
  induction l with
  | nil => cases h
  | cons x r ih =>
    simp only [Rows.uptoBulkAll]
    cases List.mem_cons.1 h with
    | inl e => subst e; omega
    | inr e => have := ih e; omega
theorem bulk_slice {H : Type} {enc : TypeId × Value → H} {P : Program} {W : World} {t E : TypeId} {A : Option Addr} {n c : Nat} {d : DataW H} {p : List MemPlace} (ht : P.underlying t = some (.slice E))
    (h : DataW.Trod enc P W 0 (fun _ => true) true t (.slice A n c) d p) : n ≤ Rows.uptoBulk d := by
  obtain ⟨fuel, hf⟩ := h
  rcases Go.Deep.open_slice ht hf with ⟨e, _⟩ | ⟨a, len, cap, m, k, D, Pl, e, _, hl, hm, hmm, hx, _⟩
  · simp only [Value.cells, List.cons.injEq, Value.slice.injEq, and_true] at e
    obtain ⟨_, rfl, _⟩ := e
    exact Nat.zero_le _
  · simp only [Value.cells, List.cons.injEq, Value.slice.injEq, and_true] at e
    obtain ⟨_, rfl, _⟩ := e
    injection hx with hx _
    subst hx
    have h1 := length_le ((List.range n).map D)
    rw [List.length_map, List.length_range] at h1
    simp only [Rows.uptoBulk]
    omega
/-- A law's own step, in the second form. -/
theorem law_upto {C : Checked} {os : Os} (started : os.Started) {H : Type} {enc : TypeId × Value → H} {F : Stop.Interp} {s : ChangeSpec} {k : FuncId} {fn : Func} {T : TypeId}
    (own : ownKnob C.prog.godebug = none) (noInit : C.prog.inits.idxOf? k = none) (hfn : C.prog.funcs[k]? = some fn)
    (witness : ∃ (w : World) (tape : Tape) (i : Input), w.os = os ∧ (w.forCall tape i).Shaped C.prog ∧ i.vars = [] ∧ Input.okWide C.prog (w.forCall tape i) .any w.heap.size k i ∧
      (Rows.OpenSpec.upto s).pre6 enc C.prog fn [] false (w.forCall tape i).memory i.args ∧ ({} : Assume).holds C.prog (lone (Frame.enter C.prog k i.args .normal) [] (w.forCall tape i)))
    (hl : laidOutB C.prog = true) (hr : ∀ t ∈ fn.params.toList, C.prog.readableRec t = true ∧ t < C.prog.types.size) (hres : fn.resultTypes = #[T]) (hT : C.prog.underlying T = some .bool) (hv : s.vars = []) (hs : SaysTrue s fn.params.size)
    (walk : ∀ (W : World) (args : Array Value), (∀ (j : Nat) t v, fn.params[j]? = some t → args[j]? = some v → (∃ base, Value.okWide C.prog W .any base t v) ∧ ∃ d p, DataW.Trod enc C.prog W 0 (fun _ => true) true t v d p ∧ Rows.uptoBulk d ≤ 1048576) → args.size = fn.params.size →
      Calls C.prog k args W fun e W' => e = .returned (.bool true) ∧ Below W.heap.size W W') :
    ReturnsInHanded {} C os k .any ((Rows.OpenSpec.upto s).pre6 enc C.prog fn [] false) (((Rows.OpenSpec.upto s).at F).post enc C.prog fn false true false false) := by
  refine returnsInHanded_of_cond (C := C) (s := Rows.OpenSpec.upto s) (k := Rows.uptoSmall) rfl own started noInit hfn witness ?_
  intro W base args ds gs before hval hW _ hk _
  have hk : Rows.uptoBulkAll (ds ++ gs) ≤ 1048576 := of_decide_eq_true hk
  have hW' := hW
  obtain ⟨p, q, hA, hV, rfl, hfz, hnd⟩ := hW
  have hlen := (trodAll_length _ _ _ _ hA).2
  refine (walk W args (fun j t v ht hv => ⟨⟨base, hval j t v ht hv⟩, ?_⟩) (by simpa using hlen)).mono fun e W' ⟨he, hb⟩ => ⟨_, he, law_post (s := s) hl hr hres hT hv hs hW' hb⟩
  have key : ∀ (ts : List TypeId) (vs : List Value) (ds : List (DataW H)) (ps : List MemPlace) (j : Nat), DataW.TrodAll enc C.prog W 0 (fun _ => true) true ts vs ds ps → ts[j]? = some t → vs[j]? = some v →
      ∃ d p, DataW.Trod enc C.prog W 0 (fun _ => true) true t v d p ∧ d ∈ ds := by
    intro ts
    induction ts with
    | nil => intro vs ds ps j h hj; simp at hj
    | cons t' ts ih =>
      intro vs ds ps j h hj hk
      obtain ⟨v', vs', d, ds', p, q, rfl, rfl, rfl, h1, h2⟩ := trodAll_cons h
      cases j with
      | zero =>
        simp only [List.getElem?_cons_zero, Option.some.injEq] at hj hk
        subst hj; subst hk
        exact ⟨d, p, h1, by simp⟩
      | succ j =>
        obtain ⟨d', p', g1, g2⟩ := ih vs' ds' q j h2 (by simpa using hj) (by simpa using hk)
        exact ⟨d', p', g1, by simp [g2]⟩
  obtain ⟨d, p', g1, g2⟩ := key _ _ _ _ j hA (by simpa using ht) (by simpa using hv)
  exact ⟨d, p', g1, Nat.le_trans (part_le (l := ds ++ gs) (by simp [g2])) hk⟩
end Go.Proofs.Ytjjlemkmdldljaa.Up
