/- Longest is just the least hold with which Check takes a program (layer 8). No program in sight. -/
import Derived.Test.YtjhiaicpgajeoaaValidV
namespace Go.ValidP
open Go.CodeP
set_option linter.unusedVariables false
section
variable {l : List Ins} {locks m er a e' a' : Int}
theorem wrong_place {s : Stand} (h : wrongS l s ≠ 0) : s.1 < l.length := by
  unfold wrongS at h
  cases hx : l[s.1]? with
  | none => rw [hx] at h; exact absurd rfl h
  | some x => exact (List.getElem?_eq_some_iff.1 hx).1
theorem tight_bad (hm : may l locks = (0, 0)) (h : LongestR l locks m er a) (he : er ≠ 0) (h' : CheckR l locks 64 e' a') : m = 0 ∧ 0 ≤ a ∧ a < l.length ∧ e' = er ∧ (a' = a ∨ er = 15 ∧ a' ≤ a) := by
  unfold LongestR at h
  unfold CheckR at h'
  rw [if_neg (by rw [hm]; decide)] at h
  rw [if_neg (by decide), if_neg (by rw [hm]; decide)] at h'
  obtain ⟨b, p, h1, h2, h3⟩ := h
  obtain ⟨b', p', g1, g2, g3⟩ := h'
  obtain ⟨rfl, rfl⟩ := h1.det g1 h2 g2
  by_cases c : b ≠ 0
  · rw [if_pos c] at h3 g3
    obtain ⟨rfl, rfl, rfl⟩ := h3
    obtain ⟨rfl, rfl⟩ := g3
    obtain ⟨⟨s, -, rfl, hs⟩, -⟩ := h1.2 c
    have := wrong_place (l := l) (s := s) (by rw [hs]; exact c)
    exact ⟨rfl, by omega, by omega, rfl, .inl rfl⟩
  · rw [if_neg c] at h3 g3
    obtain ⟨q, rfl, h4⟩ := h3
    obtain ⟨q', rfl, g4⟩ := g3
    rcases h4 with ⟨rfl, rfl, h5⟩ | ⟨rfl, -, -, -⟩
    · obtain ⟨f1, ⟨v, f2, f3⟩, f4⟩ := h5
      rcases g4 with ⟨rfl, k1, k2, k3⟩ | ⟨rfl, rfl, k⟩
      · refine ⟨rfl, by omega, by omega, rfl, .inr ⟨rfl, ?_⟩⟩
        by_cases c2 : q < q'
        · exact absurd ⟨v, f2, .inl f3⟩ (k3 q c2)
        · omega
      · exact absurd ⟨v, f2, .inl f3⟩ (k q f1)
    · exact absurd rfl he
theorem tight_place (hm : may l locks = (0, 0)) (h : LongestR l locks m er a) (he : er ≠ 0) : m = 0 ∧ 0 ≤ a ∧ a < l.length := by
  unfold LongestR at h
  rw [if_neg (by rw [hm]; decide)] at h
  obtain ⟨b, p, h1, h2, h3⟩ := h
  by_cases c : b ≠ 0
  · rw [if_pos c] at h3
    obtain ⟨rfl, rfl, rfl⟩ := h3
    obtain ⟨⟨s, -, rfl, hs⟩, -⟩ := h1.2 c
    have := wrong_place (l := l) (s := s) (by rw [hs]; exact c)
    exact ⟨rfl, by omega, by omega⟩
  · rw [if_neg c] at h3
    obtain ⟨q, rfl, h4⟩ := h3
    rcases h4 with ⟨rfl, rfl, h5⟩ | ⟨rfl, -, -, -⟩
    · have := h5.1
      exact ⟨rfl, by omega, by omega⟩
    · exact absurd rfl he
theorem tight_good (hm : may l locks = (0, 0)) (h : LongestR l locks m 0 a) : a = 0 ∧ 0 ≤ m ∧ m ≤ 65792 ∧ (∀ hold, 0 ≤ hold → hold ≤ 64 → ∀ f tt, CheckR l locks hold f tt → (f = 0 ↔ m ≤ hold) ∧ (f ≠ 0 → f = 15 ∧ ∃ (k : Nat) (x : Ins), tt = k ∧ k < l.length ∧ l[k]? = some x ∧ x.op = 29)) ∧ (m = 0 ∨ ∃ (p : Nat) (x : Ins), l[p]? = some x ∧ x.op = 29) := by
  unfold LongestR at h
  rw [if_neg (by rw [hm]; decide)] at h
  obtain ⟨b, p, h1, h2, h3⟩ := h
  by_cases c : b ≠ 0
  · rw [if_pos c] at h3
    exact absurd h3.2.1.symm c
  rw [if_neg c] at h3
  have hb : b = 0 := by omega
  subst hb
  obtain ⟨q, rfl, h4⟩ := h3
  rcases h4 with ⟨-, h5, -⟩ | ⟨-, rfl, hne, hmost⟩
  · cases h5
  obtain ⟨m0, m1, m2⟩ := hmost
  obtain ⟨k1, k2, k3, k4⟩ := may_ok hm
  have hmb : m ≤ 65792 := by
    rcases m2 with rfl | ⟨q, x, x1, x2, x3, x4⟩
    · decide
    · have hr : ValidP.Reach l (q + 1, 2 ^ x.imm.toNat) := by
        refine .next x3 (h1.1 rfl _ x3) ?_
        unfold nexts
        simp only [x1]
        rw [if_neg (by omega), if_neg (by omega), if_neg (by omega), if_pos x2, List.mem_singleton]
        unfold lockB
        rw [Nat.zero_or]
      exact (Answer.bound k2 k4 k3 (hr.small k2 k4) x4).2
  refine ⟨rfl, m0, hmb, fun hold h0 h64 f tt hf => ?_, ?_⟩
  · unfold CheckR at hf
    rw [if_neg (by omega), if_neg (by rw [hm]; decide)] at hf
    obtain ⟨b', p', g1, g2, g3⟩ := hf
    obtain ⟨rfl, rfl⟩ := h1.det g1 h2 g2
    rw [if_neg (by decide)] at g3
    obtain ⟨q', rfl, g4⟩ := g3
    rcases g4 with ⟨rfl, f1, ⟨v, f2, f3⟩, f4⟩ | ⟨rfl, rfl, f1⟩
    · refine ⟨⟨fun e => (by cases e), fun e => ?_⟩, fun _ => ⟨rfl, q', ?_⟩⟩
      · have := m1 q' v f2
        have : ¬ v < 0 := fun e => hne q' f1 ⟨v, f2, e⟩
        omega
      · obtain ⟨x, x1, x2, -⟩ := f2
        exact ⟨x, rfl, f1, x1, x2⟩
    · refine ⟨⟨fun _ => ?_, fun _ => rfl⟩, fun e => absurd rfl e⟩
      rcases m2 with rfl | ⟨q, hq⟩
      · exact h0
      · have hql : q < l.length := by obtain ⟨x, x1, -⟩ := hq; exact (List.getElem?_eq_some_iff.1 x1).1
        by_cases c2 : hold < m
        · exact absurd ⟨m, hq, .inr c2⟩ (f1 q hql)
        · omega
  · rcases m2 with rfl | ⟨q, x, x1, x2, -⟩
    · exact .inl rfl
    · exact .inr ⟨q, x, x1, x2⟩
theorem long_may (hm : (may l locks).1 ≠ 0) (h : LongestR l locks m er a) : m = 0 ∧ er = (may l locks).1 := by
  unfold LongestR at h
  rw [if_pos hm] at h
  exact ⟨h.1, h.2.1⟩
end
end Go.ValidP
