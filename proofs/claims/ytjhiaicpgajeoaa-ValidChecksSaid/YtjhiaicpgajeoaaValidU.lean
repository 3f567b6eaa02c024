/- A run of a program that was taken (layer 8): its stands are the program's, and it holds no longer than it may. No program in sight. -/
import Derived.Test.YtjhiaicpgajeoaaValidT
namespace Go.ValidP
open Go.CodeP
set_option linter.unusedVariables false
/-- A program that Check takes. -/
structure Taken (l : List Ins) (locks hold : Int) : Prop where
  may : may l locks = (0, 0)
  lo : 0 ≤ hold
  hi : hold ≤ 64
  fine : ∀ s, Reach l s → wrongS l s = 0
  short : ∀ p, p < l.length → ¬ LongAt l hold p
theorem may_zero {l : List Ins} {locks : Int} (h : (may l locks).1 = 0) : may l locks = (0, 0) := by
  unfold may at h ⊢
  by_cases c1 : locks < 0 ∨ 8 < locks
  · rw [if_pos c1] at h; simp at h
  · rw [if_neg c1] at h ⊢
    by_cases c2 : 256 < l.length
    · rw [if_pos c2] at h; simp at h
    · rw [if_neg c2] at h ⊢
      have key : ∀ (ks : List Ins) (i : Nat), (mayFrom l.length locks i ks).1 = 0 → mayFrom l.length locks i ks = (0, 0) := by
        intro ks
        induction ks with
        | nil => intro i _; rfl
        | cons x ks ih =>
          intro i h
          unfold mayFrom at h ⊢
          by_cases c : check x l.length locks = 0
          · rw [if_pos c] at h ⊢; exact ih _ h
          · rw [if_neg c] at h; exact absurd h c
      exact key _ _ h
theorem taken_of {l : List Ins} {locks hold a : Int} (h : CheckR l locks hold 0 a) : Taken l locks hold := by
  unfold CheckR at h
  by_cases c1 : hold < 0 ∨ 64 < hold
  · rw [if_pos c1] at h; exact absurd h.1 (by decide)
  rw [if_neg c1] at h
  by_cases c2 : (may l locks).1 ≠ 0
  · rw [if_pos c2] at h; exact absurd h.1.symm c2
  rw [if_neg c2] at h
  obtain ⟨b, p, h1, h2, h3⟩ := h
  by_cases c3 : b ≠ 0
  · rw [if_pos c3] at h3; exact absurd h3.1.symm c3
  rw [if_neg c3] at h3
  have hb : b = 0 := by omega
  subst hb
  obtain ⟨q, -, h4⟩ := h3
  have hm0 : (may l locks).1 = 0 := by omega
  refine ⟨may_zero hm0, by omega, by omega, h1.1 rfl, ?_⟩
  rcases h4 with ⟨e, -⟩ | ⟨-, -, h4⟩
  · cases e
  · exact h4
/-- Where a run stands: its stand, and for how many units it has held. -/
structure RunI (l : List Ins) (hold : Int) (p h : Nat) (units : Int) : Prop where
  reach : Reach l (p, h)
  zero : h = 0 → units = 0
  held : h ≠ 0 → ∃ v : Nat, Long l (p, h) v ∧ units + v ≤ hold
section
variable {l : List Ins} {locks hold units : Int} {p h : Nat}
theorem RunI.start (l : List Ins) (hold : Int) : RunI l hold 0 0 0 := ⟨.first, fun _ => rfl, fun e => absurd rfl e⟩
theorem Long.pos {s : Stand} {k : Nat} (hk : Long l s k) (h0 : s.2 ≠ 0) : 1 ≤ k := by
  obtain ⟨f, hf⟩ := hk
  cases f with
  | zero => unfold dep at hf; rw [if_neg h0] at hf; cases hf
  | succ f =>
    unfold dep at hf
    rw [if_neg h0] at hf
    cases hm : (nexts l s).mapM (dep l f) with
    | none => rw [hm] at hf; cases hf
    | some ks => rw [hm] at hf; simp only [Option.map_some, Option.some.injEq] at hf; omega
/-- It has units left. -/
theorem RunI.left (hr : RunI l hold p h units) (h0 : h ≠ 0) : units + 1 ≤ hold := by
  obtain ⟨v, hv, hu⟩ := hr.held h0
  have := hv.pos h0
  omega
/-- It goes on, its lock set no larger from nothing. -/
theorem RunI.step (hr : RunI l hold p h units) (ht : Taken l locks hold) {q g : Nat} (hn : (q, g) ∈ nexts l (p, h)) (hg : h = 0 → g = 0) : RunI l hold q g (if g = 0 then 0 else units + 1) := by
  refine ⟨.next hr.reach (ht.fine _ hr.reach) hn, fun e => if_pos e, fun e => ?_⟩
  have h0 : h ≠ 0 := fun e' => e (hg e')
  obtain ⟨v, hv, hu⟩ := hr.held h0
  obtain ⟨j, hj, hlt⟩ := hv.next h0 hn
  exact ⟨j, hj, by rw [if_neg e]; omega⟩
/-- It takes its first lock. -/
theorem RunI.lock (hr : RunI l hold p 0 units) (ht : Taken l locks hold) {x : Ins} (hx : l[p]? = some x) (ho : x.op = 29) : RunI l hold (p + 1) (lockB 0 x.imm.toNat) 0 := by
  have hp : p < l.length := (List.getElem?_eq_some_iff.1 hx).1
  have hn : (p + 1, lockB 0 x.imm.toNat) ∈ nexts l (p, 0) := by
    unfold nexts
    simp only [hx, ho]
    simp
  have hz : lockB 0 x.imm.toNat = 2 ^ x.imm.toNat := by unfold lockB; simp
  refine ⟨.next hr.reach (ht.fine _ hr.reach) hn, fun _ => rfl, fun e => ?_⟩
  rw [hz]
  by_cases c : Fin l (p + 1, 2 ^ x.imm.toNat)
  · obtain ⟨v, hv⟩ := c
    refine ⟨v, hv, ?_⟩
    have := ht.short p hp
    by_cases c2 : hold < v
    · exact absurd ⟨(v : Int), ⟨x, hx, ho, hr.reach, .inl ⟨by omega, by rw [Int.toNat_natCast]; exact hv⟩⟩, .inr c2⟩ this
    · omega
  · exact absurd ⟨-1, ⟨x, hx, ho, hr.reach, .inr ⟨rfl, c⟩⟩, .inl (by decide)⟩ (ht.short p hp)
end
end Go.ValidP
