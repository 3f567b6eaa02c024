/- The frame of a law's second form, the bulk of all arguments together. -/
import Derived.Test.YtjjlemkmdldljaaUp
namespace Go.Proofs.Ytjjlemkmdldljaa.Up
open Go.RowKit Go.Fb Go.ChangeShapes Go.WideShapes Go.ChangeAt
theorem all_le {H : Type} (l g : List (DataW H)) : Rows.uptoBulkAll l ≤ Rows.uptoBulkAll (l ++ g) := by
  induction l with
  | nil => simp [Rows.uptoBulkAll]
  | cons d l ih => simp only [List.cons_append, Rows.uptoBulkAll]; omega
theorem law_uptoAll {C : Checked} {os : Os} (started : os.Started) {H : Type} {enc : TypeId × Value → H} {F : Stop.Interp} {s : ChangeSpec} {k : FuncId} {fn : Func} {T : TypeId}
    (own : ownKnob C.prog.godebug = none) (noInit : C.prog.inits.idxOf? k = none) (hfn : C.prog.funcs[k]? = some fn)
    (witness : ∃ (w : World) (tape : Tape) (i : Input), w.os = os ∧ (w.forCall tape i).Shaped C.prog ∧ i.vars = [] ∧ Input.okWide C.prog (w.forCall tape i) .any w.heap.size k i ∧
      (Rows.OpenSpec.upto s).pre6 enc C.prog fn [] false (w.forCall tape i).memory i.args ∧ ({} : Assume).holds C.prog (lone (Frame.enter C.prog k i.args .normal) [] (w.forCall tape i)))
    (hl : laidOutB C.prog = true) (hr : ∀ t ∈ fn.params.toList, C.prog.readableRec t = true ∧ t < C.prog.types.size) (hres : fn.resultTypes = #[T]) (hT : C.prog.underlying T = some .bool) (hv : s.vars = []) (hs : SaysTrue s fn.params.size)
    (walk : ∀ (W : World) (args : Array Value) (ds : List (DataW H)), Rows.uptoBulkAll ds ≤ 1048576 → ds.length = fn.params.size → (∀ (j : Nat) t v, fn.params[j]? = some t → args[j]? = some v → (∃ base, Value.okWide C.prog W .any base t v) ∧ ∃ d p, DataW.Trod enc C.prog W 0 (fun _ => true) true t v d p ∧ ds[j]? = some d) → args.size = fn.params.size →
      Calls C.prog k args W fun e W' => e = .returned (.bool true) ∧ Below W.heap.size W W') :
    ReturnsInHanded {} C os k .any ((Rows.OpenSpec.upto s).pre6 enc C.prog fn [] false) (((Rows.OpenSpec.upto s).at F).post enc C.prog fn false true false false) := by
  refine returnsInHanded_of_cond (C := C) (s := Rows.OpenSpec.upto s) (k := Rows.uptoSmall) rfl own started noInit hfn witness ?_
  intro W base args ds gs before hval hW _ hk _
  have hk : Rows.uptoBulkAll (ds ++ gs) ≤ 1048576 := of_decide_eq_true hk
  have hk2 : Rows.uptoBulkAll ds ≤ 1048576 := Nat.le_trans (all_le ds gs) hk
  have hW' := hW
  obtain ⟨p, q, hA, hV, rfl, hfz, hnd⟩ := hW
  have hlen := (trodAll_length _ _ _ _ hA).2
  have hlen1 := (trodAll_length _ _ _ _ hA).1
  refine (walk W args ds hk2 (by first | simpa using hlen1 | simpa using hlen1.symm) (fun j t v ht hv => ⟨⟨base, hval j t v ht hv⟩, ?_⟩) (by simpa using hlen)).mono fun e W' ⟨he, hb⟩ => ⟨_, he, law_post (s := s) hl hr hres hT hv hs hW' hb⟩
  have key : ∀ (ts : List TypeId) (vs : List Value) (ds : List (DataW H)) (ps : List MemPlace) (j : Nat), DataW.TrodAll enc C.prog W 0 (fun _ => true) true ts vs ds ps → ts[j]? = some t → vs[j]? = some v →
      ∃ d p, DataW.Trod enc C.prog W 0 (fun _ => true) true t v d p ∧ ds[j]? = some d := by
    intro ts
    induction ts with
    | nil => intro vs ds ps j h hj; simp at hj
    | cons t' ts ih =>
      intro vs ds ps j h hj hk
      obtain ⟨v', vs', d, ds', p, q, rfl, rfl, rfl, h1, h2⟩ := trodAll_cons h
      cases j with
      | zero =>
        simp only [List.getElem?_cons_zero, Option.some.injEq] at hj hk
        subst hj; subst hk
        exact ⟨d, p, h1, by simp⟩
      | succ j =>
        obtain ⟨d', p', g1, g2⟩ := ih vs' ds' q j h2 (by simpa using hj) (by simpa using hk)
        exact ⟨d', p', g1, by simpa using g2⟩
  exact key _ _ _ _ j hA (by simpa using ht) (by simpa using hv)
/-- A list of lists: each of them is no longer than the whole's bulk. -/
theorem bulk_rows {α : Type} {R : Rep α} {H : Type} {enc : TypeId × Value → H} {P : Program} {W : World} {B : Nat} {t E E2 : TypeId} {A : Option Addr} {n c : Nat} {qs : List (List α)} {d : DataW H} {p : List MemPlace} (ht : P.underlying t = some (.slice E)) (hE : P.underlying E = some (.slice E2)) (hc : P.cellsOf E = 1)
    (h : DataW.Trod enc P W 0 (fun _ => true) true t (.slice A n c) d p) (hs : SliceOf R.slice W B A n c qs) : ∀ q ∈ qs, q.length ≤ Rows.uptoBulk d := by
  intro q hq
  obtain ⟨i, hi, rfl⟩ := List.mem_iff_getElem.1 hq
  have hn := hs.len
  obtain ⟨b, o, rfl, hb, hcell⟩ := hs.get (by omega)
  obtain ⟨es, g1, A', n', c', rfl, hsl⟩ := hcell i hi
  have g1 := g1 0 Nat.zero_lt_one
  obtain ⟨fuel, hf⟩ := h
  rcases Go.Deep.open_slice ht hf with ⟨e, _⟩ | ⟨a, len, cap, m, k, D, Pl, e, _, hl, hm, hmm, hx, hel⟩
  · simp [Value.cells] at e
  · simp only [Value.cells, List.cons.injEq, Value.slice.injEq, Option.some.injEq, and_true] at e
    obtain ⟨rfl, rfl, rfl⟩ := e
    obtain ⟨cs', h1, h2⟩ := hel i (by rw [hmm]; split <;> omega)
    have h3 : cs' = [.slice A' n' c'] := by
      rw [hc] at h1
      obtain ⟨_, hlen, hat⟩ := World.cells?_some h1
      have := hat 0 Nat.zero_lt_one
      rw [add_eq, add_eq] at this
      have e2 : o + i * (Rep.slice R).size + 0 = o + i * 1 + 0 := rfl
      rw [e2] at g1
      rw [g1] at this
      match cs', hlen, this with
      | [u], _, this => simp at this; rw [this]
    rw [h3] at h2
    have h4 := bulk_slice hE (d := D i) (p := Pl i) (enc := enc) (P := P) (W := W) ⟨k, h2⟩
    injection hx with hx _
    subst hx
    have h5 : Rows.uptoBulk (D i) ≤ Rows.uptoBulkAll ((List.range n).map D) := part_le (List.mem_map_of_mem (List.mem_range.2 (by omega)))
    rw [← hsl.len]
    simp only [Rows.uptoBulk]
    omega
end Go.Proofs.Ytjjlemkmdldljaa.Up
