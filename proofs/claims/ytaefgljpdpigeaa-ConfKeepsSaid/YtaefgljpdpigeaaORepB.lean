/- Data that own their memory: what an append leaves. Over any program. -/
import Derived.Test.YtaefgljpdpigeaaORep
namespace Go.Fb
open Go.RowKit
set_option linter.unusedVariables false
/-- One thing more behind the others: what an append leaves. -/
theorem OSl.rows {α : Type} {O : ORep α} {w : World} {F : Nat → Prop} {A : Option Addr} {n c : Nat} {l : List α} (h : OSl O w F A n c l) : ∃ r xs, Row w O.size r A n c xs ∧ (∀ k, r = some k → F k) ∧
    ∀ {w' : World} {r' : Option Nat} {A' : Option Addr} {c' : Nat} {x : α} {cs : List Value} {Fx F' : Nat → Prop}, Row w' O.size r' A' (n + 1) c' (xs ++ cs) → Kept (fun k => r = some k) w w' → (∀ k, r' = some k → r = some k ∨ w.heap.size ≤ k) → (∀ k, F k → k < w.heap.size) →
      O.own w Fx x cs → (∀ k, Fx k → ¬ F k ∧ k < w.heap.size) → (∀ k, F k → F' k) → (∀ k, Fx k → F' k) → (∀ k, r' = some k → F' k) → OSl O w' F' A' (n + 1) c' (l ++ [x]) := by
  obtain ⟨r, xs, Fi, h1, h2, h3, h4, h5, h6⟩ := h
  refine ⟨r, xs, h1, h3, fun {w' r' A' c' x cs Fx F'} hr hk hr' hF hx hFx hF1 hF2 hF3 => ?_⟩
  have hxl := h1.length
  refine ⟨r', xs ++ cs, fun j k => if j = n then Fx k else Fi j k, hr, by rw [List.length_append, List.length_singleton]; omega, hF3, fun j k e => ?_, fun j j' k hne e e' => ?_, fun j hj => ?_⟩
  · change (if j = n then Fx k else Fi j k) at e
    by_cases c1 : j = n
    · rw [if_pos c1] at e
      refine ⟨hF2 k e, fun e' => ?_⟩
      rcases hr' k e' with h | h
      · exact (hFx k e).1 (h3 k h)
      · have := (hFx k e).2; omega
    · rw [if_neg c1] at e
      refine ⟨hF1 k (h4 j k e).1, fun e' => ?_⟩
      rcases hr' k e' with h | h
      · exact (h4 j k e).2 h
      · have := hF k (h4 j k e).1; omega
  · change (if j = n then Fx k else Fi j k) at e
    change (if j' = n then Fx k else Fi j' k) at e'
    by_cases c1 : j = n
    · rw [if_pos c1] at e
      rw [if_neg (by omega)] at e'
      exact (hFx k e).1 (h4 _ k e').1
    · rw [if_neg c1] at e
      by_cases c2 : j' = n
      · rw [if_pos c2] at e'
        exact (hFx k e').1 (h4 _ k e).1
      · rw [if_neg c2] at e'
        exact h5 j j' k hne e e'
  · rw [List.length_append, List.length_singleton] at hj
    have hlen := O.length hx
    by_cases c1 : j = n
    · have e1 : (fun k => if j = n then Fx k else Fi j k) = Fx := by funext k; rw [if_pos c1]
      show O.own w' (fun k => if j = n then Fx k else Fi j k) _ _
      rw [e1]
      have e2 : ((xs ++ cs).drop (j * O.size)).take O.size = cs := by
        rw [c1, List.drop_left' hxl, List.take_of_length_le (by omega)]
      have e3 : (l ++ [x])[j]'(by simp; omega) = x := by
        rw [List.getElem_append_right (by omega)]
        simp
      rw [e2, e3]
      exact O.kept hx hk fun k e e' => (hFx k e).1 (h3 k e')
    · have hjl : j < l.length := by omega
      have e1 : (fun k => if j = n then Fx k else Fi j k) = Fi j := by funext k; rw [if_neg c1]
      show O.own w' (fun k => if j = n then Fx k else Fi j k) _ _
      rw [e1, List.getElem_append_left hjl]
      have e2 : ((xs ++ cs).drop (j * O.size)).take O.size = (xs.drop (j * O.size)).take O.size := by
        have : j * O.size + O.size ≤ n * O.size := by rw [← Nat.succ_mul]; exact Nat.mul_le_mul_right _ (by omega)
        rw [List.drop_append_of_le_length (by omega), List.take_append_of_le_length (by rw [List.length_drop]; omega)]
      rw [e2]
      exact O.kept (h6 j hjl) hk fun k e e' => (h4 j k e).2 e'
theorem OSl.read_of {α β : Type} {O : ORep α} {R : Rep β} {w : World} {F : Nat → Prop} {A : Option Addr} {n c : Nat} {l : List α} (h : OSl O w F A n c l) (hs : O.size = R.size) (m : List β) (hl : m.length = l.length) (hm : ∀ i (h1 : i < l.length) (h2 : i < m.length) (G : Nat → Prop) cs, O.own w G l[i] cs → R.cells w w.heap.size m[i] cs) : SliceOf R w w.heap.size A n c m := by
  obtain ⟨r, xs, Fi, h1, h2, h3, h4, h5, h6⟩ := h
  refine ⟨by omega, h1.le, h1.max, ?_⟩
  by_cases h0 : n = 0
  · exact .inl h0
  · obtain ⟨g, o, e1, e2, hc5, hc6⟩ := h1.at_pos (by have := h1.le; omega)
    refine .inr ⟨g, o, e2, h1.lt O.pos g e1, fun i hi => ⟨_, fun j hj => ?_, hm i (by omega) hi _ _ (h6 i (by omega))⟩⟩
    rw [← hs] at hj ⊢
    rw [drop_take_get hj, Nat.add_assoc]
    refine hc5 _ ?_
    have : i * O.size + O.size ≤ n * O.size := by rw [← Nat.succ_mul]; exact Nat.mul_le_mul_right _ (by omega)
    omega
end Go.Fb
