/- A config's bytes, plainly; the walk of conf.Encode (layer 14). -/
import Derived.Test.YtaefgljpdpigeaaConfE
namespace Go.Proofs.Ytaefgljpdpigeaa.Conf
open Go.RowKit Go.Fb Go.CodeP Go.BytesP
open Go.Proofs.Ytaefgljpdpigeaa.Code (RowB tyBytes byte_bv u64_bd)
set_option linter.unusedVariables false
def markB : List UInt8 := [70, 66, 67, 70, 1]
def encL (l : List Int) : List UInt8 := l.flatMap (le · 8)
def encT (l : List Int) : List UInt8 := l.flatMap (le · 1)
def encP (p : Int × List Ins) : List UInt8 := le p.1 1 ++ le p.2.length 2 ++ encode p.2
def encPs (l : List (Int × List Ins)) : List UInt8 := l.flatMap encP
def stage2 (c : Cf) : List UInt8 := markB ++ le c.labels.length 1 ++ encL c.labels
def stage4 (c : Cf) : List UInt8 := stage2 c ++ le c.table.length 1 ++ encT c.table
def stage8 (c : Cf) : List UInt8 := stage4 c ++ le c.fuel 2 ++ (le c.lane 1 ++ le c.locks 1) ++ le c.log 2 ++ le c.procs.length 1
/-- A config's bytes. -/
def encB (c : Cf) : List UInt8 := stage8 c ++ encPs c.procs
/-- .. if it may be. -/
def encC (c : Cf) : List UInt8 := if mayC c = (0, 0) then encB c else []
theorem length_encL (l : List Int) : (encL l).length = 8 * l.length := by
  induction l with
  | nil => rfl
  | cons x l ih => unfold encL at *; rw [List.flatMap_cons, List.length_append, length_le, ih, List.length_cons]; omega
theorem length_encT (l : List Int) : (encT l).length = l.length := by
  induction l with
  | nil => rfl
  | cons x l ih => unfold encT at *; rw [List.flatMap_cons, List.length_append, length_le, ih, List.length_cons]; omega
theorem length_encP (p : Int × List Ins) : (encP p).length = 3 + 12 * p.2.length := by unfold encP; rw [List.length_append, List.length_append, length_le, length_le, length_encode]
theorem length_encPs (l : List (Int × List Ins)) (h : ∀ p ∈ l, p.2.length ≤ 256) : (encPs l).length ≤ 3075 * l.length := by
  induction l with
  | nil => exact Nat.zero_le _
  | cons x l ih =>
    have h1 := h x (by simp)
    have h2 := ih (fun p hp => h p (by simp [hp]))
    unfold encPs at *
    rw [List.flatMap_cons, List.length_append, length_encP, List.length_cons]; omega
theorem length_stage2 (c : Cf) : (stage2 c).length = 6 + 8 * c.labels.length := by unfold stage2; simp only [List.length_append, length_le, length_encL]; rfl
theorem length_stage4 (c : Cf) : (stage4 c).length = 7 + 8 * c.labels.length + c.table.length := by unfold stage4; simp only [List.length_append, length_le, length_encT, length_stage2]; omega
theorem length_stage8 (c : Cf) : (stage8 c).length = 14 + 8 * c.labels.length + c.table.length := by unfold stage8; simp only [List.length_append, length_le, length_stage4]; omega
/-- What a config that may be is like. -/
theorem may_facts {c : Cf} (h : mayC c = (0, 0)) : Good0 c ∧ (∀ j, j < 6 → numE c j = 0) ∧ manyE c.procs.length 32 = 0 ∧ ∀ j (hj : j < c.procs.length), procE c.labels.length c.locks c.procs[j] = 0 := by
  have hn : ∀ {a b : Int}, a ≠ 0 → ((a, b) : Int × Int) ≠ (0, 0) := fun h e => h (congrArg Prod.fst e)
  have h' := h
  unfold mayC at h'
  by_cases a1 : (labE c.labels).1 ≠ 0
  · rw [if_pos a1] at h'; exact absurd h' (hn a1)
  rw [if_neg a1] at h'
  by_cases a2 : manyE c.table.length 64 ≠ 0
  · rw [if_pos a2] at h'; exact absurd h' (hn a2)
  rw [if_neg a2] at h'
  by_cases a3 : (Slots.newE c.table c.labels.length).1 ≠ 0
  · rw [if_pos a3] at h'; exact absurd h' (hn a3)
  have hg : Good0 c := ⟨Classical.not_not.1 a1, Classical.not_not.1 a2, Classical.not_not.1 a3⟩
  clear h'
  have hnum : ∀ k, k ≤ 6 → ∀ j, j < k → numE c j = 0 := by
    intro k
    induction k with
    | zero => intro _ j hj; omega
    | succ k ih =>
      intro hk j hj
      by_cases e : j < k
      · exact ih (by omega) j e
      · obtain rfl : j = k := by omega
        refine Classical.byContradiction fun hne => ?_
        rw [mayC_num hg (by omega) (ih (by omega)) hne] at h
        exact hn hne h
  have hmany : manyE c.procs.length 32 = 0 := by
    refine Classical.byContradiction fun hne => ?_
    rw [mayC_many hg (hnum 6 (by omega)) hne] at h
    exact hn hne h
  refine ⟨hg, hnum 6 (by omega), hmany, ?_⟩
  have hp : ∀ k, k ≤ c.procs.length → ∀ j (hj : j < c.procs.length), j < k → procE c.labels.length c.locks c.procs[j] = 0 := by
    intro k
    induction k with
    | zero => intro _ j _ hj; omega
    | succ k ih =>
      intro hk j hjl hj
      by_cases e : j < k
      · exact ih (by omega) j hjl e
      · obtain rfl : j = k := by omega
        refine Classical.byContradiction fun hne => ?_
        rw [mayC_proc hg (hnum 6 (by omega)) hmany hjl (ih (by omega)) hne] at h
        exact hn hne h
  exact fun j hj => hp c.procs.length (Nat.le_refl _) j hj hj
theorem within_true {n a b : Int} (h : withinB n a b = true) : a ≤ n ∧ n ≤ b := of_decide_eq_true h
theorem ranged_zero {n a b : Int} (h : (if withinB n a b then (0 : Int) else 2) = 0) : a ≤ n ∧ n ≤ b := by
  cases hw : withinB n a b with
  | true => exact within_true hw
  | false => rw [hw, if_neg (by decide)] at h; exact absurd h (by decide)
theorem many_zero {n : Nat} {m : Int} (h : manyE n m = 0) : 1 ≤ n ∧ (n : Int) ≤ m := by
  unfold manyE at h
  split at h
  · exact absurd h (by decide)
  · split at h
    · exact absurd h (by decide)
    · omega
/-- .. in numbers. -/
structure Sane (c : Cf) : Prop where
  labels : 1 ≤ c.labels.length ∧ c.labels.length ≤ 8
  table : 1 ≤ c.table.length ∧ c.table.length ≤ 64
  parts : ∀ x ∈ c.table, 0 ≤ x ∧ x < c.labels.length
  fuel : 1 ≤ c.fuel ∧ c.fuel ≤ 256
  lane : 1 ≤ c.lane ∧ c.lane ≤ 64
  locks : 0 ≤ c.locks ∧ c.locks ≤ 8
  log : 0 ≤ c.log ∧ c.log ≤ 4096
  procs : 1 ≤ c.procs.length ∧ c.procs.length ≤ 32
  part : ∀ p ∈ c.procs, 0 ≤ p.1 ∧ p.1 < c.labels.length
  code : ∀ p ∈ c.procs, may p.2 c.locks = (0, 0)
  rise : labE c.labels = (0, 0)
theorem labE_zero {l : List Int} (h : (labE l).1 = 0) : labE l = (0, 0) := by
  unfold labE at h ⊢
  split
  · rename_i h0; rw [if_pos h0] at h; exact absurd h (by decide)
  · rename_i h0
    rw [if_neg h0] at h
    split
    · rename_i h1; rw [if_pos h1] at h; exact absurd h (by decide)
    · rename_i h1
      rw [if_neg h1] at h
      split
      · rename_i i hf
        rw [hf] at h
        have := List.find?_some hf
        exact absurd h (of_decide_eq_true this).2
      · rfl
theorem new_zero {T : List Int} {parts : Int} (h : (Slots.newE T parts).1 = 0) : ∀ x ∈ T, 0 ≤ x ∧ x < parts := by
  have h' := newE_ok h
  unfold Slots.newE at h'
  split at h'
  · exact absurd (congrArg Prod.fst h') (by decide)
  · split at h'
    · exact absurd (congrArg Prod.fst h') (by decide)
    · split at h'
      · exact absurd (congrArg Prod.fst h') (show ¬ (2 : Int) = 0 by decide)
      · rename_i h3
        intro x hx
        have := List.findIdx_eq_length.1 (Nat.le_antisymm List.findIdx_le_length (Nat.le_of_not_lt h3)) x hx
        simp [Slots.bad] at this
        omega
theorem sane_of {c : Cf} (h : mayC c = (0, 0)) : Sane c := by
  obtain ⟨⟨g1, g2, g3⟩, h1, h2, h3⟩ := may_facts h
  have hll := lab_len g1
  have ht := many_zero g2
  have hp := many_zero h2
  have n2 := h1 2 (by omega)
  have n3 := h1 3 (by omega)
  have n4 := h1 4 (by omega)
  have n5 := h1 5 (by omega)
  have hproc : ∀ p ∈ c.procs, (0 ≤ p.1 ∧ p.1 < c.labels.length) ∧ may p.2 c.locks = (0, 0) := by
    intro p hpm
    obtain ⟨i, hi, rfl⟩ := List.mem_iff_getElem.1 hpm
    have := h3 i hi
    unfold procE at this
    cases hw : withinB c.procs[i].1 0 ((c.labels.length : Int) - 1) with
    | true =>
      rw [hw, if_pos rfl] at this
      have := within_true hw
      exact ⟨by omega, Code.may_zero (by assumption)⟩
    | false => rw [hw, if_neg (by decide)] at this; exact absurd this (by decide)
  exact ⟨hll, by omega, new_zero g3, ranged_zero n2, ranged_zero n3, ranged_zero n4, ranged_zero n5, by omega, fun p hp => (hproc p hp).1, fun p hp => (hproc p hp).2, labE_zero g1⟩
end Go.Proofs.Ytaefgljpdpigeaa.Conf
