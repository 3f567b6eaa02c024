/- A map of int to int that a call has made, as a function. -/
import Derived.Test.YtjhiaicpgajeoaaMem
import Derived.Maps.OwnSet
namespace Go.Fb
open Go.RowKit Go.Maps
set_option linter.unusedVariables false
/-- Block b is a map of at most n entries that reads as f. -/
def MapF (P : Program) (K E : TypeId) (w : World) (b n : Nat) (f : Int → Option Int) : Prop :=
  ∃ D : DataW Unit, w.ownsMap P K (plainElem P E) b n D ∧ IsMap D ∧ ∀ x, (Lit.int .i64 x).wf = true → has D (.int .i64 x) = (f x).isSome ∧ ∀ v, f x = some v → D.atKey (.int .i64 x) (.lit (.int .i64 0)) = .lit (.int .i64 v)
theorem grown_kept {w w' : World} {b : Nat} (h : w.grownBy w' (some b)) : Kept (fun k => k = b) w w' := ⟨h.os, h.tape, h.output, h.size, fun k hk hn => h.block k hk (fun e => hn (by injection e))⟩
namespace MapF
variable {P : Program} {K E T : TypeId} {w w' : World} {b n : Nat} {f : Int → Option Int}
theorem made (w : World) : MapF P K E (w.alloc (.map #[] 0)) w.heap.size 0 (fun _ => none) :=
  ⟨.map [], World.ownsMap_made w P K _, isMap_empty, fun x hx => ⟨rfl, fun v hv => by cases hv⟩⟩
theorem lt (h : MapF P K E w b n f) : b < w.heap.size := by
  obtain ⟨D, h1, -⟩ := h
  exact h1.lt
theorem kept {G : Nat → Prop} (h : MapF P K E w b n f) (hk : Kept G w w') (hg : ¬ G b) : MapF P K E w' b n f := by
  have hlt := h.lt
  obtain ⟨D, ⟨es, clock, hb, h1⟩, h2⟩ := h
  exact ⟨D, ⟨es, clock, (hk.block b hlt hg).trans hb, h1⟩, h2⟩
theorem new (h : MapF P K E w b n f) (hk : New w w') : MapF P K E w' b n f := h.kept hk id
theorem key_of (hK : P.underlying K = some (.int .i64)) {x : Int} (hx : (Lit.int .i64 x).wf = true) : keyOf P K (.int .i64 x) = some (.int .i64 x) := by
  simp [keyOf, mapKey, hK, hx]
theorem update (h : MapF P K E w b n f) (hT : P.underlying T = some (.map K E)) (hK : P.underlying K = some (.int .i64)) (hE : P.underlying E = some (.int .i64)) (hn : n < maxLen) {x v : Int} (hx : (Lit.int .i64 x).wf = true) (hv : (Lit.int .i64 v).wf = true) :
    ∃ w', (Instr.mapUpdate T (.map (some b)) (.int .i64 x) (.int .i64 v)).run P w = .ok () w' ∧ MapF P K E w' b (n + 1) (fun y => if y = x then some v else f y) ∧ Kept (fun k => k = b) w w' := by
  obtain ⟨D, h1, h2, h3⟩ := h
  obtain ⟨w', hrun, ho, hg⟩ := h1.update (int_keyed hK) hT hn (key_of hK hx) (plainElem_int hE hv)
  refine ⟨w', hrun, ⟨_, ho, h2.put _ _, fun y hy => ?_⟩, grown_kept hg⟩
  dsimp only
  by_cases e : y = x
  · subst e
    rw [if_pos rfl]
    refine ⟨has_put_same h2 ((int_keyed hK).key (key_of hK hx)) _, fun u hu => ?_⟩
    injection hu with hu
    subst hu
    exact atKey_put_same h2 ((int_keyed hK).key (key_of hK hx)) _ _
  · rw [if_neg e]
    have hne : (Lit.int .i64 y) ≠ (Lit.int .i64 x) := fun h => e (by injection h)
    refine ⟨by rw [has_put_other hne]; exact (h3 y hy).1, fun u hu => ?_⟩
    rw [atKey_put_other hne]
    exact (h3 y hy).2 u hu
theorem look (h : MapF P K E w b n f) (hT : P.underlying T = some (.map K E)) (hK : P.underlying K = some (.int .i64)) (hE : P.underlying E = some (.int .i64)) (hz : ∀ W, (zeroValue E).run P W = .ok (.int .i64 0) W) {x : Int} (hx : (Lit.int .i64 x).wf = true) :
    ∃ c, (Instr.lookup T (.map (some b)) (.int .i64 x) true).run P w = .ok (.tuple #[.int .i64 c, .bool (f x).isSome]) w ∧ ∀ v, f x = some v → c = v := by
  obtain ⟨D, h1, h2, h3⟩ := h
  obtain ⟨v, ps, hrun, hv⟩ := h1.look_ok (int_keyed hK) hT (hz w) (plainElem_int hE (by decide)) (key_of hK hx)
  obtain ⟨c, rfl, hc, hwc⟩ := plainElem_int_inv hE hv
  refine ⟨c, by rw [hrun, (h3 x hx).1], fun u hu => ?_⟩
  have := (h3 x hx).2 u hu
  have h4 := congrArg Prod.fst hc
  simp only at h4
  rw [this] at h4
  injection h4 with h4
  injection h4 with _ h4
  exact h4.symm
end MapF
end Go.Fb
