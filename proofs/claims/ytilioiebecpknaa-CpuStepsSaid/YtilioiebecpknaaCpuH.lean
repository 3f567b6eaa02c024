/- A core laid into its cells; how the world stands ahead of the reference's reckons (layer 13). -/
import Derived.Test.YtilioiebecpknaaCpuU
namespace Go.Proofs.Ytilioiebecpknaa.CpuR
open Go.RowKit Go.Fb Go.BytesP Go.CodeP Go.CpuP _root_.Go.Proofs.Ytilioiebecpknaa.Code _root_.Go.Proofs.Ytilioiebecpknaa.Cpu
set_option linter.unusedVariables false
/-- A core laid into its cells. -/
def laidC (W : World) (x : Nat) (d : Core) : World :=
  ((((((((W.setCell ⟨x, 0, none⟩ (.int .i64 d.pc)).setCell ⟨x, 1, none⟩ (.int .i64 d.r0)).setCell ⟨x, 2, none⟩ (.int .i64 d.r1)).setCell ⟨x, 3, none⟩ (.int .i64 d.r2)).setCell ⟨x, 4, none⟩ (.int .i64 d.r3)).setCell ⟨x, 5, none⟩ (.int .i64 d.r4)).setCell ⟨x, 6, none⟩ (.int .i64 d.r5)).setCell ⟨x, 7, none⟩ (.int .i64 d.r6)).setCell ⟨x, 8, none⟩ (.int .i64 d.r7)
theorem laidC_blk {W : World} {x : Nat} {T : TypeId} {c d : Core} (b : Blk W x T (coreC c)) : Blk (laidC W x d) x T (coreC d) := by
  have b1 := ((((((((b.set (i := 0) (.int .i64 d.pc)).set (i := 1) (.int .i64 d.r0)).set (i := 2) (.int .i64 d.r1)).set (i := 3) (.int .i64 d.r2)).set (i := 4) (.int .i64 d.r3)).set (i := 5) (.int .i64 d.r4)).set (i := 6) (.int .i64 d.r5)).set (i := 7) (.int .i64 d.r6)).set (i := 8) (.int .i64 d.r7)
  rw [coreC_sets] at b1
  exact b1
theorem laidC_kept {w W : World} {x : Nat} {d : Core} (h : New w W) (hx : w.heap.size ≤ x) : New w (laidC W x d) :=
  ((((((((h.setCell (.inl hx) _).setCell (.inl hx) _).setCell (.inl hx) _).setCell (.inl hx) _).setCell (.inl hx) _).setCell (.inl hx) _).setCell (.inl hx) _).setCell (.inl hx) _).setCell (.inl hx) _
theorem laidC_other {W : World} {x y : Nat} {T : TypeId} {d : Core} {cs : Array Value} (b : Blk W y T cs) (h : y ≠ x) : Blk (laidC W x d) y T cs :=
  ((((((((b.other (p := ⟨x, 0, none⟩) h (.int .i64 d.pc)).other (p := ⟨x, 1, none⟩) h (.int .i64 d.r0)).other (p := ⟨x, 2, none⟩) h (.int .i64 d.r1)).other (p := ⟨x, 3, none⟩) h (.int .i64 d.r2)).other (p := ⟨x, 4, none⟩) h (.int .i64 d.r3)).other (p := ⟨x, 5, none⟩) h (.int .i64 d.r4)).other (p := ⟨x, 6, none⟩) h (.int .i64 d.r5)).other (p := ⟨x, 7, none⟩) h (.int .i64 d.r6)).other (p := ⟨x, 8, none⟩) h (.int .i64 d.r7)
theorem run_reckons {tmps : Array Value} {W : World} {x : Nat} {d : Core} (h8 : tmps.getD 8 undef = .pointer (some ⟨x, 0, none⟩)) (b1 : Blk W x 34 (coreC d)) :
    (results Try.f24 tmps).run Try.prog W = .ok (coreV d) W := by
  obtain ⟨d0, d1, d2, d3, d4, d5, d6, d7, d8⟩ := Blk.core b1
  rw [Array.getD_eq_getD_getElem?] at h8
  simp [results, Try.results24, go_sem, h8, d0, d1, d2, d3, d4, d5, d6, d7, d8, coreV, coreC]
theorem reckons_end {w W : World} {x : Nat} {y d : Core} {a : Act} {R : Ending → World → Prop} (hn : New w W) (hx : w.heap.size ≤ x) (b : Blk W x 34 (coreC y)) (h8 : a.tmps.getD 8 undef = .pointer (some ⟨x, 0, none⟩)) (hd : a.defers = [])
    (h : New w (laidC W x d) → R (.returned (coreV d)) (laidC W x d)) : bodyPost Try.prog Try.f24 R .ret a (laidC W x d) :=
  bodyPost_ret (run_reckons h8 (laidC_blk b)) hd (h (laidC_kept hn hx))
/-- How the world stands ahead of reckons' switch. -/
structure Four (w W : World) (c d : Core) (x : Ins) : Prop where
  new : New w W
  b4 : Blk W w.heap.size 34 (coreC c)
  b5 : Blk W (w.heap.size + 1) 32 (insC x)
  b8 : Blk W (w.heap.size + 1 + 1) 34 (coreC ⟨0, 0, 0, 0, 0, 0, 0, 0, 0⟩)
  b9 : Blk W (w.heap.size + 1 + 1 + 1) 34 (coreC d)
theorem Four.go {w W W' : World} {c d : Core} {x : Ins} (h : Four w W c d x) (hk : New W W') : Four w W' c d x :=
  ⟨h.new.trans hk, h.b4.kept hk id, h.b5.kept hk id, h.b8.kept hk id, h.b9.kept hk id⟩
theorem Four.put {w W : World} {c d : Core} {x : Ins} (h : Four w W c d x) (m : Nat) (hm : m < 8) (v : Int) : Four w (W.setCell ⟨w.heap.size + 1 + 1 + 1, 1 + m, none⟩ (.int .i64 v)) c (d.put m v) x := by
  refine ⟨h.new.setCell (.inl (by show w.heap.size ≤ w.heap.size + 1 + 1 + 1; omega)) _, h.b4.other (by show w.heap.size ≠ w.heap.size + 1 + 1 + 1; omega) _, h.b5.other (by show w.heap.size + 1 ≠ w.heap.size + 1 + 1 + 1; omega) _, h.b8.other (by show w.heap.size + 1 + 1 ≠ w.heap.size + 1 + 1 + 1; omega) _, ?_⟩
  have := h.b9.set (i := 1 + m) (.int .i64 v)
  rw [coreC_put d m v hm] at this
  exact this
theorem coreC_pc (c : Core) (v : Int) : (coreC c).setIfInBounds 0 (.int .i64 v) = coreC { c with pc := v } := rfl
theorem Four.jump {w W : World} {c d : Core} {x : Ins} (h : Four w W c d x) (v : Int) : Four w (W.setCell ⟨w.heap.size + 1 + 1 + 1, 0, none⟩ (.int .i64 v)) c { d with pc := v } x := by
  refine ⟨h.new.setCell (.inl (by show w.heap.size ≤ w.heap.size + 1 + 1 + 1; omega)) _, h.b4.other (by show w.heap.size ≠ w.heap.size + 1 + 1 + 1; omega) _, h.b5.other (by show w.heap.size + 1 ≠ w.heap.size + 1 + 1 + 1; omega) _, h.b8.other (by show w.heap.size + 1 + 1 ≠ w.heap.size + 1 + 1 + 1; omega) _, ?_⟩
  exact h.b9.set (i := 0) (.int .i64 v)
theorem Four.drew {w W : World} {c d : Core} {x : Ins} (h : Four w W c d x) : Four w W.drew c d x := ⟨h.new.drew, h.b4, h.b5, h.b8, h.b9⟩
/-- Which instructions reckon. -/
def Reckons (op : Int) : Prop := (1 ≤ op ∧ op ≤ 23) ∨ op = 32 ∨ op = 33
theorem put_next (c : Core) (i v : Int) : c.next.put i v = (c.put i v).next := by
  unfold Core.put
  repeat (split; · rfl)
  rfl
def InC (c : Core) : Prop := ∀ i, -9223372036854775808 ≤ c.get i ∧ c.get i ≤ 9223372036854775807
end Go.Proofs.Ytilioiebecpknaa.CpuR
