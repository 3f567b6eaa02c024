/- The answers of Check and Longest, plainly; each is one alone (layer 8). No program in sight. -/
import Derived.Test.YtjhiaicpgajeoaaValidR
namespace Go.ValidP
open Go.CodeP
set_option linter.unusedVariables false
theorem Answer.det {l : List Ins} {s : Stand} {v v' : Int} (h : Answer l s v) (h' : Answer l s v') : v = v' := by
  rcases h with ⟨h0, h⟩ | ⟨rfl, h⟩
  · rcases h' with ⟨g0, g⟩ | ⟨rfl, g⟩
    · have := h.det g; omega
    · exact absurd ⟨_, h⟩ g
  · rcases h' with ⟨g0, g⟩ | ⟨rfl, g⟩
    · exact absurd ⟨_, g⟩ h
    · rfl
/-- A hold begins at a place, and lasts so long. -/
def Hold (l : List Ins) (p : Nat) (v : Int) : Prop := ∃ x, l[p]? = some x ∧ x.op = 29 ∧ Reach l (p, 0) ∧ Answer l (p + 1, 2 ^ x.imm.toNat) v
theorem Hold.det {l : List Ins} {p : Nat} {v v' : Int} (h : Hold l p v) (h' : Hold l p v') : v = v' := by
  obtain ⟨x, h1, h2, h3, h4⟩ := h
  obtain ⟨y, g1, g2, g3, g4⟩ := h'
  rw [h1] at g1
  injection g1 with g1
  subst g1
  exact h4.det g4
/-- The first place at which something is so, of those below a bound; none: all is fine. -/
def FirstAt (n : Nat) (P : Nat → Prop) (p : Nat) : Prop := p < n ∧ P p ∧ ∀ q, q < p → ¬ P q
theorem FirstAt.det {n : Nat} {P : Nat → Prop} {p q : Nat} (h : FirstAt n P p) (h' : FirstAt n P q) : p = q := by
  rcases Nat.lt_trichotomy p q with e | e | e
  · exact absurd h.2.1 (h'.2.2 p e)
  · exact e
  · exact absurd h'.2.1 (h.2.2 q e)
/-- What Check answers of a program whose instructions may stand and whose stands are not wrong. -/
def LongAt (l : List Ins) (hold : Int) (p : Nat) : Prop := ∃ v, Hold l p v ∧ (v < 0 ∨ hold < v)
def CheckH (l : List Ins) (hold : Int) (e : Int) (at_ : Nat) : Prop := (e = 15 ∧ FirstAt l.length (LongAt l hold) at_) ∨ (e = 0 ∧ at_ = 0 ∧ ∀ p, p < l.length → ¬ LongAt l hold p)
theorem CheckH.det {l : List Ins} {hold e e' : Int} {a a' : Nat} (h : CheckH l hold e a) (h' : CheckH l hold e' a') : e = e' ∧ a = a' := by
  rcases h with ⟨rfl, h⟩ | ⟨rfl, rfl, h⟩
  · rcases h' with ⟨rfl, h'⟩ | ⟨rfl, rfl, h'⟩
    · exact ⟨rfl, h.det h'⟩
    · exact absurd h.2.1 (h' _ h.1)
  · rcases h' with ⟨rfl, h'⟩ | ⟨rfl, rfl, h'⟩
    · exact absurd h'.2.1 (h _ h'.1)
    · exact ⟨rfl, rfl⟩
/-- .. and what Longest does: the error, the place, the most units. -/
def EndlessAt (l : List Ins) (p : Nat) : Prop := ∃ v, Hold l p v ∧ v < 0
def MostH (l : List Ins) (m : Int) : Prop := 0 ≤ m ∧ (∀ p v, Hold l p v → v ≤ m) ∧ (m = 0 ∨ ∃ p, Hold l p m)
def LongestH (l : List Ins) (m e : Int) (at_ : Nat) : Prop := (m = 0 ∧ e = 15 ∧ FirstAt l.length (EndlessAt l) at_) ∨ (e = 0 ∧ at_ = 0 ∧ (∀ p, p < l.length → ¬ EndlessAt l p) ∧ MostH l m)
theorem MostH.det {l : List Ins} {m m' : Int} (h : MostH l m) (h' : MostH l m') : m = m' := by
  obtain ⟨h0, h1, h2⟩ := h
  obtain ⟨g0, g1, g2⟩ := h'
  have a1 : m ≤ m' := by
    rcases h2 with rfl | ⟨p, hp⟩
    · exact g0
    · exact g1 p m hp
  have a2 : m' ≤ m := by
    rcases g2 with rfl | ⟨p, hp⟩
    · exact h0
    · exact h1 p m' hp
  omega
theorem LongestH.det {l : List Ins} {m m' e e' : Int} {a a' : Nat} (h : LongestH l m e a) (h' : LongestH l m' e' a') : m = m' ∧ e = e' ∧ a = a' := by
  rcases h with ⟨rfl, rfl, h⟩ | ⟨rfl, rfl, h, hm⟩
  · rcases h' with ⟨rfl, rfl, h'⟩ | ⟨rfl, rfl, h', hm'⟩
    · exact ⟨rfl, rfl, h.det h'⟩
    · exact absurd h.2.1 (h' _ h.1)
  · rcases h' with ⟨rfl, rfl, h'⟩ | ⟨rfl, rfl, h', hm'⟩
    · exact absurd h'.2.1 (h _ h'.1)
    · exact ⟨hm.det hm', rfl, rfl⟩
/-- Of a program that may stand: what is wrong with its stands; else how long it holds. -/
def CheckR (l : List Ins) (locks hold : Int) (e : Int) (at_ : Int) : Prop :=
  if hold < 0 ∨ 64 < hold then e = 1 ∧ at_ = 0
  else if (may l locks).1 ≠ 0 then e = (may l locks).1 ∧ at_ = (may l locks).2
  else ∃ (b : Int) (p : Nat), First l b p ∧ (b = 0 → p = 0) ∧ if b ≠ 0 then e = b ∧ at_ = p else ∃ q : Nat, at_ = q ∧ CheckH l hold e q
def LongestR (l : List Ins) (locks : Int) (m e : Int) (at_ : Int) : Prop :=
  if (may l locks).1 ≠ 0 then m = 0 ∧ e = (may l locks).1 ∧ at_ = (may l locks).2
  else ∃ (b : Int) (p : Nat), First l b p ∧ (b = 0 → p = 0) ∧ if b ≠ 0 then m = 0 ∧ e = b ∧ at_ = p else ∃ q : Nat, at_ = q ∧ LongestH l m e q
theorem CheckR.det {l : List Ins} {locks hold e e' a a' : Int} (h : CheckR l locks hold e a) (h' : CheckR l locks hold e' a') : e = e' ∧ a = a' := by
  unfold CheckR at h h'
  by_cases c1 : hold < 0 ∨ 64 < hold
  · rw [if_pos c1] at h h'
    exact ⟨h.1.trans h'.1.symm, h.2.trans h'.2.symm⟩
  rw [if_neg c1] at h h'
  by_cases c2 : (may l locks).1 ≠ 0
  · rw [if_pos c2] at h h'
    exact ⟨h.1.trans h'.1.symm, h.2.trans h'.2.symm⟩
  rw [if_neg c2] at h h'
  obtain ⟨b, p, h1, h2, h3⟩ := h
  obtain ⟨b', p', g1, g2, g3⟩ := h'
  obtain ⟨rfl, rfl⟩ := h1.det g1 h2 g2
  by_cases c3 : b ≠ 0
  · rw [if_pos c3] at h3 g3
    exact ⟨h3.1.trans g3.1.symm, h3.2.trans g3.2.symm⟩
  · rw [if_neg c3] at h3 g3
    obtain ⟨q, rfl, h3⟩ := h3
    obtain ⟨q', rfl, g3⟩ := g3
    obtain ⟨e1, rfl⟩ := h3.det g3
    exact ⟨e1, rfl⟩
theorem LongestR.det {l : List Ins} {locks m m' e e' a a' : Int} (h : LongestR l locks m e a) (h' : LongestR l locks m' e' a') : m = m' ∧ e = e' ∧ a = a' := by
  unfold LongestR at h h'
  by_cases c2 : (may l locks).1 ≠ 0
  · rw [if_pos c2] at h h'
    exact ⟨h.1.trans h'.1.symm, h.2.1.trans h'.2.1.symm, h.2.2.trans h'.2.2.symm⟩
  rw [if_neg c2] at h h'
  obtain ⟨b, p, h1, h2, h3⟩ := h
  obtain ⟨b', p', g1, g2, g3⟩ := h'
  obtain ⟨rfl, rfl⟩ := h1.det g1 h2 g2
  by_cases c3 : b ≠ 0
  · rw [if_pos c3] at h3 g3
    exact ⟨h3.1.trans g3.1.symm, h3.2.1.trans g3.2.1.symm, h3.2.2.trans g3.2.2.symm⟩
  · rw [if_neg c3] at h3 g3
    obtain ⟨q, rfl, h3⟩ := h3
    obtain ⟨q', rfl, g3⟩ := g3
    obtain ⟨e0, e1, rfl⟩ := h3.det g3
    exact ⟨e0, e1, rfl⟩
end Go.ValidP
