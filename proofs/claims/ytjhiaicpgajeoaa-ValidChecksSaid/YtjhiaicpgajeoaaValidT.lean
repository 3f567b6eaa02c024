/- The programs of the law's fixed (layer 8): what Check and Longest answer of them. No program in sight. -/
import Derived.Test.YtjhiaicpgajeoaaValidS
namespace Go.ValidP
open Go.CodeP
set_option linter.unusedVariables false
theorem reach_in {l : List Ins} {L : List Stand} (h0 : (0, 0) ∈ L) (hc : ∀ s ∈ L, ∀ t ∈ nexts l s, t ∈ L) : ∀ s, Reach l s → s ∈ L := fun s hs => by
  induction hs with
  | first => exact h0
  | next _ _ ht ih => exact hc _ ih _ ht
def insN (op n : Int) : Ins := ⟨op, 0, 0, 0, n⟩
def good : List Ins := [insN 29 0, insN 29 1, insN 30 1, insN 30 0, insN 0 0]
def poor : List Ins := [insN 29 1, insN 29 0]
theorem good_reach : ∀ s, Reach good s → s ∈ [(0, 0), (1, 1), (2, 3), (3, 1), (4, 0)] := reach_in (by decide) (by decide)
theorem poor_reach : ∀ s, Reach poor s → s ∈ [(0, 0), (1, 2), (2, 3)] := reach_in (by decide) (by decide)
theorem good_first : First good 0 0 := ⟨fun _ s hs => (by decide : ∀ s ∈ [((0, 0) : Stand), (1, 1), (2, 3), (3, 1), (4, 0)], wrongS good s = 0) s (good_reach s hs), fun h => absurd rfl h⟩
theorem poor_first : First poor 14 1 := by
  refine ⟨fun h => absurd h (by decide), fun _ => ⟨⟨(1, 2), .next .first (by decide) (by decide), rfl, by decide⟩, fun s hs hw => ?_⟩⟩
  exact (by decide : ∀ s ∈ [((0, 0) : Stand), (1, 2), (2, 3)], wrongS poor s ≠ 0 → 1 ≤ s.1) s (poor_reach s hs) hw
theorem good_long : Long good (1, 1) 3 := ⟨5, by decide⟩
theorem good_hold : Hold good 0 3 := ⟨insN 29 0, rfl, rfl, .first, .inl ⟨by decide, good_long⟩⟩
theorem good_only {p : Nat} {v : Int} (h : Hold good p v) : p = 0 ∧ v = 3 := by
  obtain ⟨x, h1, h2, h3, h4⟩ := h
  have hp := (by decide : ∀ s ∈ [((0, 0) : Stand), (1, 1), (2, 3), (3, 1), (4, 0)], s.2 = 0 → s.1 = 0 ∨ s.1 = 4) _ (good_reach _ h3) rfl
  rcases hp with e | e
  · simp only at e
    subst e
    exact ⟨rfl, Hold.det ⟨x, h1, h2, h3, h4⟩ good_hold⟩
  · simp only at e
    subst e
    have : x = insN 0 0 := by injection h1 with h1; exact h1.symm
    rw [this] at h2
    cases h2
theorem good_longest : LongestR good 2 3 0 0 := by
  unfold LongestR
  rw [if_neg (by decide)]
  refine ⟨0, 0, good_first, fun _ => rfl, ?_⟩
  rw [if_neg (by decide)]
  exact ⟨0, rfl, .inr ⟨rfl, rfl, fun p _ ⟨v, h, hv⟩ => by have := good_only h; omega, by decide, fun p v h => by have := good_only h; omega, .inr ⟨0, good_hold⟩⟩⟩
theorem good_two : CheckR good 2 2 15 0 := by
  unfold CheckR
  rw [if_neg (by decide), if_neg (by decide)]
  refine ⟨0, 0, good_first, fun _ => rfl, ?_⟩
  rw [if_neg (by decide)]
  exact ⟨0, rfl, .inl ⟨rfl, by decide, ⟨3, good_hold, by decide⟩, fun q hq => absurd hq (Nat.not_lt_zero _)⟩⟩
theorem good_three : CheckR good 2 3 0 0 := by
  unfold CheckR
  rw [if_neg (by decide), if_neg (by decide)]
  refine ⟨0, 0, good_first, fun _ => rfl, ?_⟩
  rw [if_neg (by decide)]
  exact ⟨0, rfl, .inr ⟨rfl, rfl, fun p _ ⟨v, h, hv⟩ => by have := good_only h; omega⟩⟩
theorem poor_five : CheckR poor 2 5 14 1 := by
  unfold CheckR
  rw [if_neg (by decide), if_neg (by decide)]
  refine ⟨14, 1, poor_first, fun h => absurd h (by decide), ?_⟩
  rw [if_pos (by decide)]
  exact ⟨rfl, rfl⟩
end Go.ValidP
