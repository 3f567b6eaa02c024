/- A slice's length within reach. Over any program. -/
import Derived.Test.YtnfaafdgfafcjaaSized
namespace Go.Fb
open Go.RowKit Go.ChangeShapes Go.WideShapes Go.ChangeAt
theorem sized_len {H : Type} {enc : TypeId × Value → H} {P : Program} {W : World} {t E : TypeId} {A : Option Addr} {n c : Nat} {d : DataW H} {p : List MemPlace} (ht : P.underlying t = some (.slice E))
    (h : DataW.Trod enc P W 0 (fun _ => true) true t (.slice A n c) d p) (hz : ∀ m ∈ DataW.weights P t d, m ≤ reachBytes) : n * P.bytesOf E ≤ reachBytes := by
  obtain ⟨fuel, hf⟩ := h
  rcases Go.Deep.open_slice ht hf with ⟨e, _⟩ | ⟨a, len, cap, m, n', D, Pl, e, _, hl, hm, hmm, hyy, hx⟩
  · simp only [Value.cells, List.cons.injEq, Value.slice.injEq, and_true] at e
    obtain ⟨-, rfl, -⟩ := e
    simp
  · simp only [Value.cells, List.cons.injEq, Value.slice.injEq, and_true] at e
    obtain ⟨-, rfl, -⟩ := e
    obtain ⟨sp, hy1⟩ : ∃ sp, d = .slice ((List.range n).map D) sp := by
      have := congrArg Prod.fst hyy
      exact ⟨_, this⟩
    rw [hy1] at hz
    simp only [DataW.weights, ht, List.mem_cons, List.mem_append] at hz
    have := hz _ (.inl rfl)
    rw [List.length_map, List.length_range, Nat.add_mul] at this
    omega
end Go.Fb
