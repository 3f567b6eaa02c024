/- What a step changes, plainly (chapter 13). No program in sight. -/
import Derived.Test.YtilioiebecpknaaCpuP
namespace Go.CpuP
open Go.RowKit Go.CodeP

/-- How many of the first registers differ. -/
def nd (c d : Core) : Nat → Nat
  | 0 => 0
  | k + 1 => nd c d k + if c.get k = d.get k then 0 else 1
theorem nd_same {c d : Core} (h : ∀ k : Nat, c.get k = d.get k) : ∀ m, nd c d m = 0 := by
  intro m
  induction m with
  | zero => rfl
  | succ m ih => simp only [nd]; rw [ih, if_pos (h m)]
theorem nd_one {c d : Core} (j : Int) (h : ∀ k : Nat, (k : Int) ≠ j → c.get k = d.get k) : ∀ m : Nat, nd c d m ≤ if j < m then 1 else 0 := by
  intro m
  induction m with
  | zero => exact Nat.zero_le _
  | succ m ih =>
    simp only [nd]
    by_cases e : (m : Int) = j
    · have h1 : (if j < ((m + 1 : Nat) : Int) then 1 else 0) = 1 := if_pos (by omega)
      have h2 : (if j < ((m : Nat) : Int) then 1 else 0) = 0 := if_neg (by omega)
      rw [h2] at ih
      rw [h1]
      split <;> omega
    · rw [if_pos (h m e)]
      by_cases h1 : j < (m : Int)
      · rw [if_pos h1] at ih
        rw [if_pos (by omega)]; omega
      · rw [if_neg h1] at ih
        omega
theorem nd_le {c d : Core} : ∀ m : Nat, nd c d m ≤ m := by
  intro m
  induction m with
  | zero => exact Nat.le_refl _
  | succ m ih => simp only [nd]; split <;> omega
theorem get_next (c : Core) (i : Int) : c.next.get i = c.get i := rfl
theorem get_put (c : Core) (a v : Int) (k : Nat) (h : (k : Int) ≠ a) : (c.put a v).get k = c.get k := by
  unfold Core.put
  by_cases h0 : a = 0
  · rw [if_pos h0]; subst h0; unfold Core.get; simp only; rw [if_neg h, if_neg h]
  rw [if_neg h0]
  by_cases h1 : a = 1
  · rw [if_pos h1]; subst h1; unfold Core.get; simp only [if_neg h]
  rw [if_neg h1]
  by_cases h2 : a = 2
  · rw [if_pos h2]; subst h2; unfold Core.get; simp only [if_neg h]
  rw [if_neg h2]
  by_cases h3 : a = 3
  · rw [if_pos h3]; subst h3; unfold Core.get; simp only [if_neg h]
  rw [if_neg h3]
  by_cases h4 : a = 4
  · rw [if_pos h4]; subst h4; unfold Core.get; simp only [if_neg h]
  rw [if_neg h4]
  by_cases h5 : a = 5
  · rw [if_pos h5]; subst h5; unfold Core.get; simp only [if_neg h]
  rw [if_neg h5]
  by_cases h6 : a = 6
  · rw [if_pos h6]; subst h6; unfold Core.get; simp only [if_neg h]
  rw [if_neg h6]
  by_cases h7 : a = 7
  · rw [if_pos h7]; subst h7; unfold Core.get; simp only [if_neg h]
  rw [if_neg h7]
theorem pc_put (c : Core) (a v : Int) : (c.put a v).pc = c.pc := by
  unfold Core.put
  repeat (split; · rfl)
  rfl
theorem nd_put (c : Core) (a v : Int) : nd c (c.put a v).next 8 ≤ 1 := by
  have := nd_one (c := c) (d := (c.put a v).next) a (fun k h => by rw [get_next, get_put c a v k h]) 8
  split at this <;> omega
/-- What a step may change. -/
structure Changed (c d : Core) (t : Want) (l : List Ins) : Prop where
  some_ : t.kind ≠ 0 → nd c d 8 = 0 ∧ (d.pc = c.pc ∨ d.pc = wrap64 (c.pc + 1))
  none_ : t.kind = 0 → (0 ≤ c.pc ∧ c.pc < l.length) ∧ nd c d 8 ≤ 1 ∧ (d.pc = wrap64 (c.pc + 1) ∨ (((l.getD c.pc.toNat ⟨0, 0, 0, 0, 0⟩).op = 22 ∨ (l.getD c.pc.toNat ⟨0, 0, 0, 0, 0⟩).op = 23) ∧ nd c d 8 = 0 ∧ d.pc = (l.getD c.pc.toNat ⟨0, 0, 0, 0, 0⟩).imm))
theorem wants_kind (x : Ins) (c : Core) (h : (wants x c).2.2 = true) : (wants x c).1.kind ≠ 0 := by
  unfold wants at h ⊢
  by_cases h0 : x.op = 0
  · rw [if_pos h0]; simp
  rw [if_neg h0] at h ⊢
  by_cases h1 : x.op = 24
  · rw [if_pos h1]; simp
  rw [if_neg h1] at h ⊢
  by_cases h2 : x.op = 25
  · rw [if_pos h2]; simp
  rw [if_neg h2] at h ⊢
  by_cases h3 : x.op = 26
  · rw [if_pos h3]; simp
  rw [if_neg h3] at h ⊢
  by_cases h4 : x.op = 27
  · rw [if_pos h4]; simp
  rw [if_neg h4] at h ⊢
  by_cases h5 : x.op = 28
  · rw [if_pos h5]; simp
  rw [if_neg h5] at h ⊢
  by_cases h6 : x.op = 29
  · rw [if_pos h6]; simp
  rw [if_neg h6] at h ⊢
  by_cases h7 : x.op = 30
  · rw [if_pos h7]; simp
  rw [if_neg h7] at h ⊢
  by_cases h8 : x.op = 31
  · rw [if_pos h8]; simp
  rw [if_neg h8] at h
  cases h
theorem nd_self (c : Core) : nd c c 8 = 0 := nd_same (c := c) (d := c) (fun _ => rfl) 8
theorem nd_next (c : Core) : nd c c.next 8 = 0 := nd_same (c := c) (d := c.next) (fun _ => rfl) 8
theorem nd_pc (c : Core) (p : Int) : nd c { c with pc := p } 8 = 0 := nd_same (c := c) (d := { c with pc := p }) (fun _ => rfl) 8
theorem step_changed (v : Int) (c : Core) (l : List Ins) (tick self : Int) : Changed c (stepC v c l tick self).1 (stepC v c l tick self).2 l := by
  unfold stepC
  split
  · exact ⟨fun _ => ⟨nd_self c, .inl rfl⟩, fun h => by simp at h⟩
  · rename_i h0
    have hat : (atPC c l).2 = true := by
      cases h : (atPC c l).2 with
      | true => rfl
      | false => exact absurd (.inl h) h0
    have hpc : 0 ≤ c.pc ∧ c.pc < l.length ∧ (atPC c l).1 = l.getD c.pc.toNat ⟨0, 0, 0, 0, 0⟩ := by
      unfold atPC at hat ⊢
      split at hat
      · cases hat
      · rename_i h1
        rw [if_neg h1]
        exact ⟨by omega, by omega, rfl⟩
    obtain ⟨p1, p2, p3⟩ := hpc
    rw [p3] at h0 ⊢
    generalize hx : l.getD c.pc.toNat ⟨0, 0, 0, 0, 0⟩ = x at *
    split
    · rename_i h1
      have hk := wants_kind x c h1
      refine ⟨fun _ => ?_, fun h => absurd h hk⟩
      simp only
      split
      · exact ⟨nd_self c, .inl rfl⟩
      · exact ⟨nd_next c, .inr rfl⟩
    · refine ⟨fun h => absurd rfl h, fun _ => ⟨⟨p1, p2⟩, ?_⟩⟩
      rw [hx]
      simp only
      have key : ∀ w, nd c (c.put x.a w).next 8 ≤ 1 ∧ ((c.put x.a w).next.pc = wrap64 (c.pc + 1) ∨ ((x.op = 22 ∨ x.op = 23) ∧ nd c (c.put x.a w).next 8 = 0 ∧ (c.put x.a w).next.pc = x.imm)) := fun w =>
        ⟨nd_put c x.a w, .inl (by show wrap64 ((c.put x.a w).pc + 1) = _; rw [pc_put])⟩
      unfold reckon
      split
      · exact key _
      split
      · exact key _
      split
      · exact key _
      split
      · exact key _
      split
      · rename_i h22
        have h0 : nd c { c with pc := x.imm } 8 = 0 := nd_pc c x.imm
        exact ⟨by rw [h0]; exact Nat.zero_le _, .inr ⟨.inl h22, h0, rfl⟩⟩
      split
      · rename_i h23
        split
        · have h0 : nd c c.next 8 = 0 := nd_next c
          exact ⟨by rw [h0]; exact Nat.zero_le _, .inl rfl⟩
        · have h0 : nd c { c with pc := x.imm } 8 = 0 := nd_pc c x.imm
          exact ⟨by rw [h0]; exact Nat.zero_le _, .inr ⟨.inr h23, h0, rfl⟩⟩
      · exact key _
end Go.CpuP
