/- Data that own their memory: a thing is taken out, and may be written over. Over any program. -/
import Derived.Test.YtnfaafdgfafcjaaORepB
namespace Go.Fb
open Go.RowKit
set_option linter.unusedVariables false
/-- A thing is taken out: its cells stay, what it owns is free. -/
theorem OSl.out {α : Type} {O : ORep α} {w : World} {F : Nat → Prop} {A : Option Addr} {n c : Nat} {L : List (α ⊕ List Value)} (h : OSl O.or w F A n c L) (i : Nat) (hi : i < L.length) {x : α} (hx : L[i] = .inl x) :
    ∃ g o cs, ∃ Fi : Nat → Prop, A = some ⟨g, o, none⟩ ∧ F g ∧ O.own w Fi x cs ∧ (∀ k, Fi k → F k ∧ k ≠ g) ∧ OSl O.or w (fun k => F k ∧ ¬ Fi k) A n c (L.set i (.inr cs)) ∧
      ∀ j, j < O.size → w.cell? ⟨g, o + i * O.size + j, none⟩ = cs[j]? ∧ w.frozen? ⟨g, o + i * O.size + j, none⟩ = false := by
  obtain ⟨r, xs, Fi, h1, h2, h3, h4, h5, h6⟩ := h
  obtain ⟨g, o, e1, e2, hc⟩ := h1.at_index (k := i) (by omega)
  have hown : O.own w (Fi i) x ((xs.drop (i * O.size)).take O.size) := by
    have h := h6 i hi
    rw [hx] at h
    exact h
  refine ⟨g, o, _, Fi i, e2, h3 g e1, hown, fun k e => ⟨(h4 i k e).1, fun e' => (h4 i k e).2 (by rw [e', e1])⟩, ?_, fun j hj => ?_⟩
  · refine ⟨r, xs, fun j k => if j = i then False else Fi j k, h1, by rw [List.length_set]; exact h2, fun k e => ⟨h3 k e, fun e' => (h4 i k e').2 e⟩, fun j k e => ?_, fun j j' k hne e e' => ?_, fun j hj => ?_⟩
    · change (if j = i then False else Fi j k) at e
      by_cases c1 : j = i
      · rw [if_pos c1] at e; exact e.elim
      · rw [if_neg c1] at e
        exact ⟨⟨(h4 j k e).1, fun e' => h5 j i k c1 e e'⟩, (h4 j k e).2⟩
    · change (if j = i then False else Fi j k) at e
      change (if j' = i then False else Fi j' k) at e'
      by_cases c1 : j = i
      · rw [if_pos c1] at e; exact e
      · by_cases c2 : j' = i
        · rw [if_pos c2] at e'; exact e'
        · rw [if_neg c1] at e; rw [if_neg c2] at e'; exact h5 j j' k hne e e'
    · rw [List.length_set] at hj
      by_cases c1 : j = i
      · subst c1
        rw [List.getElem_set_self]
        exact ⟨rfl, O.length hown⟩
      · rw [List.getElem_set_ne (fun e => c1 e.symm)]
        have e1 : (fun k => if j = i then False else Fi j k) = Fi j := by funext k; rw [if_neg c1]
        show O.or.own w (fun k => if j = i then False else Fi j k) _ _
        rw [e1]
        exact h6 j hj
  · obtain ⟨v, q1, q2, q3⟩ := hc j hj
    refine ⟨?_, q3⟩
    rw [drop_take_get hj]
    exact q2.trans q1.symm
/-- All of them are there. -/
theorem OSl.or_of {α : Type} {O : ORep α} {w : World} {F : Nat → Prop} {A : Option Addr} {n c : Nat} {l : List α} (h : OSl O w F A n c l) : OSl O.or w F A n c (l.map .inl) :=
  h.map (S := O.or) rfl (by simp) fun i h1 h2 G cs hG ho => by rw [List.getElem_map]; exact ho
/-- The row alone. -/
theorem OSl.row {α : Type} {O : ORep α} {w : World} {F : Nat → Prop} {A : Option Addr} {n c : Nat} {l : List α} (h : OSl O w F A n c l) : ∃ r xs, Row w O.size r A n c xs ∧ ∀ k, r = some k → F k := by
  obtain ⟨r, xs, Fi, h1, h2, h3, -⟩ := h
  exact ⟨r, xs, h1, h3⟩
/-- Those from i on are there, and are small. -/
def From {α β : Type} (P : α → Prop) (i : Nat) (L : List (α ⊕ β)) : Prop := ∀ j (h : j < L.length), i ≤ j → ∃ x, L[j] = .inl x ∧ P x
theorem From.all {α β : Type} {P : α → Prop} {l : List α} (h : ∀ x ∈ l, P x) : From P 0 (l.map (Sum.inl (β := β))) := fun j hj _ => ⟨l[j]'(by simpa using hj), by simp, h _ (List.getElem_mem _)⟩
theorem From.set {α β : Type} {P : α → Prop} {i : Nat} {L : List (α ⊕ β)} (h : From P i L) (y : α ⊕ β) : From P (i + 1) (L.set i y) := fun j hj hi => by
  rw [List.getElem_set_ne (by omega)]
  exact h j (by simpa using hj) (by omega)
theorem From.set2 {α β : Type} {P : α → Prop} {i : Nat} {L : List (α ⊕ β)} (h : From P i L) (y z : α ⊕ β) : From P (i + 1) ((L.set i y).set i z) := by
  rw [List.set_set]; exact h.set z
end Go.Fb
