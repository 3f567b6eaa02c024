/- The walk of the reference's Step (layer 13). -/
import Derived.Test.YtilioiebecpknaaCpuH
namespace Go.Proofs.Ytilioiebecpknaa.CpuR
open Go.RowKit Go.Fb Go.BytesP Go.CodeP Go.CpuP _root_.Go.Proofs.Ytilioiebecpknaa.Code _root_.Go.Proofs.Ytilioiebecpknaa.Cpu
set_option linter.unusedVariables false
/-- What a step gives, exactly. -/
def stepX (c : Core) (l : List Ins) (tick self : Int) : Core × Want := stepC (valX (atPC c l).1.op (c.get (atPC c l).1.b) (c.get (atPC c l).1.c)) c l tick self
theorem stepX_out {c : Core} {l : List Ins} {tick self : Int} (h : isR c l = false) : stepX c l tick self = (c, ⟨1, 0, 0⟩) := by
  unfold stepX stepC
  refine if_pos ?_
  unfold isR at h
  rcases Bool.and_eq_false_iff.1 h with h | h
  · exact .inl h
  · exact .inr (beq_eq_false_iff_ne.1 h)
theorem stepX_in {c : Core} {l : List Ins} {tick self : Int} (h : isR c l = true) : check (atPC c l).1 l.length 8 = 0 ∧ stepX c l tick self =
    (if (wants (atPC c l).1 c).2.2 = true then ((if (wants (atPC c l).1 c).2.1 = true then c else c.next), (wants (atPC c l).1 c).1) else (reckon (valX (atPC c l).1.op (c.get (atPC c l).1.b) (c.get (atPC c l).1.c)) (atPC c l).1 c tick self, ⟨0, 0, 0⟩)) := by
  unfold isR at h
  rw [Bool.and_eq_true] at h
  have h2 := beq_iff_eq.1 h.2
  refine ⟨h2, if_neg ?_⟩
  rintro (e | e)
  · rw [h.1] at e; cases e
  · exact e h2
/-- How the world stands behind At. -/
structure Five (w W : World) (p : Nat) (c : Core) (x : Ins) : Prop where
  base : Base w W c
  bi : Blk W p 32 (insC x)
  far : w.heap.size + 1 + 1 + 1 ≤ p
theorem Five.go {w W W' : World} {p : Nat} {c : Core} {x : Ins} (h : Five w W p c x) (hk : New W W') : Five w W' p c x :=
  ⟨h.base.go hk, h.bi.kept hk id, h.far⟩
set_option maxHeartbeats 4000000 in
set_option maxRecDepth 100000 in
theorem rstep_no (c : Core) (A : Option Addr) (n k : Nat) (l : List Ins) (tick self : Int) (w : World) (hl : SliceOf repIns w w.heap.size A n k l) (hin : InC c) (his : isR c l = false) :
    Calls Try.prog 8 #[coreV c, .slice A n k, .int .i64 tick, .int .i64 self] w fun e w' => e = .returned (.tuple #[coreV (stepX c l tick self).1, wantV (stepX c l tick self).2]) ∧ New w w' := by
  obtain ⟨res, hres⟩ : ∃ res, stepX c l tick self = res := ⟨_, rfl⟩
  rw [hres]
  have hat := fun W (hW : New w W) => rat_any c A n k l W (news hl hW)
  have hbase : ∀ W, New (((w.alloc (.cells (coreC c) 34)).alloc (.cells (coreC ⟨0, 0, 0, 0, 0, 0, 0, 0, 0⟩) 34)).alloc (.cells #[.int .i64 0, .int .i64 0, .int .i64 0] 35)) W → Base w W c := fun W hW => (Base.made w c).go hW
  have hr : res = (c, ⟨1, 0, 0⟩) := hres.symm.trans (stepX_out his)
  subst hr
  clear hres
  rw [his] at hat
  generalize (atPC c l).1 = x at *
  obtain ⟨op, a, b, cc, imm⟩ := x
  obtain ⟨pc, r0, r1, r2, r3, r4, r5, r6, r7⟩ := c
  unfold coreV coreC agg at *
  have HL := Lib.hid hl
  have HAT := Lib.hid hat
  have HBASE := Lib.hid hbase
  have HIS := Lib.hid his
  have HIN := Lib.hid hin
  clear hl hat hbase his hin
  go_enter Try.func8, Try.ntmps8
  go_wp2_with fail
  generalize hW0 : (((w.alloc (.cells #[.int .i64 pc, .int .i64 r0, .int .i64 r1, .int .i64 r2, .int .i64 r3, .int .i64 r4, .int .i64 r5, .int .i64 r6, .int .i64 r7] 34)).alloc (.cells #[.int .i64 0, .int .i64 0, .int .i64 0, .int .i64 0, .int .i64 0, .int .i64 0, .int .i64 0, .int .i64 0, .int .i64 0] 34)).alloc (.cells #[.int .i64 0, .int .i64 0, .int .i64 0] 35)) = W0 at *
  have hb0 := HBASE.out W0 (Kept.refl _ _)
  refine (HAT.out W0 hb0.new).mono ?_
  rintro e w1 ⟨rfl, hw1⟩
  have hb1 := HBASE.out _ (hw1.alloc (.cells #[.int .i64 op, .int .i64 a, .int .i64 b, .int .i64 cc, .int .i64 imm] 32))
  obtain ⟨d0, d1, d2, d3, d4, d5, d6, d7, d8⟩ := Blk.core hb1.b0
  obtain ⟨f1, f2, e0, e1, e2, e3, e4, e5, e6, e7, e8, g0, g1, g2⟩ := hb1.fin
  have HB0 := Lib.hid hb0
  have HB1 := Lib.hid hb1
  have HW1 := Lib.hid hw1
  clear hb0 hb1 hw1
  go_wp2_with fail
  exact step_end (d := ⟨pc, r0, r1, r2, r3, r4, r5, r6, r7⟩) (t := ⟨1, 0, 0⟩) HB1.out rfl rfl rfl fun h => ⟨rfl, h⟩
end Go.Proofs.Ytilioiebecpknaa.CpuR
