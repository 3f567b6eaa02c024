/- Cores and wants, plainly: what chapter 13 computes. No program in sight. -/
import Derived.Test.YtilioiebecpknaaCodeP
import Derived.Test.YtilioiebecpknaaAluPlain
namespace Go.CpuP
open Go.RowKit Go.CodeP

structure Core where
  pc : Int
  r0 : Int
  r1 : Int
  r2 : Int
  r3 : Int
  r4 : Int
  r5 : Int
  r6 : Int
  r7 : Int
def Core.get (c : Core) (i : Int) : Int :=
  if i = 0 then c.r0 else if i = 1 then c.r1 else if i = 2 then c.r2 else if i = 3 then c.r3
  else if i = 4 then c.r4 else if i = 5 then c.r5 else if i = 6 then c.r6 else if i = 7 then c.r7 else 0
def Core.put (c : Core) (i v : Int) : Core :=
  if i = 0 then { c with r0 := v } else if i = 1 then { c with r1 := v } else if i = 2 then { c with r2 := v } else if i = 3 then { c with r3 := v }
  else if i = 4 then { c with r4 := v } else if i = 5 then { c with r5 := v } else if i = 6 then { c with r6 := v } else if i = 7 then { c with r7 := v } else c
theorem Core.put_out (c : Core) (i v : Int) (h : i < 0 ∨ 8 ≤ i) : c.put i v = c := by
  unfold Core.put; rw [if_neg (by omega), if_neg (by omega), if_neg (by omega), if_neg (by omega), if_neg (by omega), if_neg (by omega), if_neg (by omega), if_neg (by omega)]
structure Want where
  kind : Int
  to : Int
  val : Int
def Want.none : Want := ⟨0, 0, 0⟩
/-- The instruction at a core's place. -/
def atPC (c : Core) (l : List Ins) : Ins × Bool :=
  if c.pc < 0 ∨ (l.length : Int) ≤ c.pc then (⟨0, 0, 0, 0, 0⟩, false) else (l.getD c.pc.toNat ⟨0, 0, 0, 0, 0⟩, true)
/-- What an instruction wants: want, stays, is. -/
def wants (x : Ins) (c : Core) : Want × Bool × Bool :=
  if x.op = 0 then (⟨1, 0, 0⟩, true, true)
  else if x.op = 24 then (⟨2, c.get x.b, c.get x.c⟩, true, true)
  else if x.op = 25 then (⟨3, 0, 0⟩, true, true)
  else if x.op = 26 then (⟨4, 0, 0⟩, true, true)
  else if x.op = 27 then (⟨5, 0, c.get x.a⟩, false, true)
  else if x.op = 28 then (⟨6, 0, c.get x.a⟩, true, true)
  else if x.op = 29 then (⟨7, x.imm, 0⟩, true, true)
  else if x.op = 30 then (⟨8, x.imm, 0⟩, false, true)
  else if x.op = 31 then (⟨9, 0, c.get x.a⟩, false, true)
  else (⟨0, 0, 0⟩, false, false)
/-- One place on. -/
def Core.next (c : Core) : Core := { c with pc := wrap64 (c.pc + 1) }
/-- What Step does where the instruction may stand and wants nothing; v: what is reckoned. -/
def reckon (v : Int) (x : Ins) (c : Core) (tick self : Int) : Core :=
  if x.op = 1 then (c.put x.a x.imm).next
  else if x.op = 2 then (c.put x.a (c.get x.b)).next
  else if x.op = 32 then (c.put x.a tick).next
  else if x.op = 33 then (c.put x.a self).next
  else if x.op = 22 then { c with pc := x.imm }
  else if x.op = 23 then (if c.get x.a = 0 then c.next else { c with pc := x.imm })
  else (c.put x.a v).next
def stepC (v : Int) (c : Core) (l : List Ins) (tick self : Int) : Core × Want :=
  if (atPC c l).2 = false ∨ check (atPC c l).1 l.length 8 ≠ 0 then (c, ⟨1, 0, 0⟩)
  else if (wants (atPC c l).1 c).2.2 = true then ((if (wants (atPC c l).1 c).2.1 = true then c else c.next), (wants (atPC c l).1 c).1)
  else (reckon v (atPC c l).1 c tick self, ⟨0, 0, 0⟩)
theorem check_regs {x : Ins} {n locks : Int} (h : check x n locks = 0) : (0 ≤ x.op ∧ x.op < 34) ∧ (0 ≤ x.a ∧ x.a < 8) ∧ (0 ≤ x.b ∧ x.b < 8) ∧ (0 ≤ x.c ∧ x.c < 8) ∧ ((x.op = 22 ∨ x.op = 23) → 0 ≤ x.imm ∧ x.imm ≤ n) := by
  have hr : ∀ has m, reg has m = 0 → 0 ≤ m ∧ m < 8 := by
    intro has m hm
    unfold reg at hm
    split at hm
    · split at hm
      · omega
      · omega
    · split at hm
      · omega
      · omega
  unfold check wrong at h
  split at h
  · simp at h
  · split at h
    · rename_i h1 h2; exact absurd h h2
    · split at h
      · rename_i h1 h2 h3; exact absurd h h3
      · split at h
        · rename_i h1 h2 h3 h4; exact absurd h h4
        · rename_i h1 h2 h3 h4
          refine ⟨by omega, hr _ _ (Classical.not_not.1 h2), hr _ _ (Classical.not_not.1 h3), hr _ _ (Classical.not_not.1 h4), fun ho => ?_⟩
          simp only [number] at h
          split at h
          · omega
          · split at h
            · omega
            · omega
end Go.CpuP
