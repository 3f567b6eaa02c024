/- How configs and states lie in memory (layer 18). -/
import Derived.Test.YtgdmajockejpgaaKeep
import Derived.Test.YtgdmajockejpgaaProg
import Derived.Deep.QuietTactic
import Derived.BigQuiet
import Derived.IntWalk
import Derived.WalkSpells
import Derived.Deep.LoopGhost
import Derived.Deep.Cut
import Derived.Outline
namespace Go.Proofs.Ytgdmajockejpgaa.View
open Go.RowKit Go.Fb
set_option linter.unusedVariables false
def wfI (x : Int) : Prop := (Lit.int .i64 x).wf = true
structure Entry where
  tick : Int
  proc : Int
  value : Int
structure Waiter where
  proc : Int
  value : Int
structure Lane where
  values : List Int
  waiters : List Waiter
  taken : Int
  dropped : Int
structure Process where
  state : Int
  pc : Int
  r0 : Int
  r1 : Int
  r2 : Int
  r3 : Int
  r4 : Int
  r5 : Int
  r6 : Int
  r7 : Int
  cursor : Int
  timer : Int
  fired : Bool
  wake : Int
  lanes : List Lane
structure Part where
  cursor : Int
  log : List Entry
  lost : Int
  forbidden : Int
  owners : List Int
  queues : List (List Int)
def repEntry : Rep Entry where
  size := 3
  cells _ _ x cs := cs = [.int .i64 x.tick, .int .i64 x.proc, .int .i64 x.value] ∧ wfI x.tick ∧ wfI x.proc ∧ wfI x.value
  length h := by rw [h.1]; rfl
  stays _ h := h
  more _ h := h
def repWaiter : Rep Waiter where
  size := 2
  cells _ _ x cs := cs = [.int .i64 x.proc, .int .i64 x.value] ∧ wfI x.proc ∧ wfI x.value
  length h := by rw [h.1]; rfl
  stays _ h := h
  more _ h := h
def repLane : Rep Lane where
  size := 4
  cells w B x cs := ∃ Av nv cv Aw nw cw, cs = [.slice Av nv cv, .slice Aw nw cw, .int .i64 x.taken, .int .i64 x.dropped] ∧ SliceOf (Rep.int .i64) w B Av nv cv x.values ∧ SliceOf repWaiter w B Aw nw cw x.waiters ∧ wfI x.taken ∧ wfI x.dropped
  length h := by obtain ⟨_, _, _, _, _, _, h, _⟩ := h; rw [h]; rfl
  stays hw h := by obtain ⟨a1, a2, a3, a4, a5, a6, h, h1, h2, h3⟩ := h; exact ⟨a1, a2, a3, a4, a5, a6, h, h1.stays hw, h2.stays hw, h3⟩
  more hw h := by obtain ⟨a1, a2, a3, a4, a5, a6, h, h1, h2, h3⟩ := h; exact ⟨a1, a2, a3, a4, a5, a6, h, h1.more hw, h2.more hw, h3⟩
def repProc : Rep Process where
  size := 15
  cells w B x cs := ∃ A n c, cs = [.int .i64 x.state, .int .i64 x.pc, .int .i64 x.r0, .int .i64 x.r1, .int .i64 x.r2, .int .i64 x.r3, .int .i64 x.r4, .int .i64 x.r5, .int .i64 x.r6, .int .i64 x.r7, .int .i64 x.cursor, .int .i64 x.timer, .bool x.fired, .int .i64 x.wake, .slice A n c] ∧ SliceOf repLane w B A n c x.lanes
  length h := by obtain ⟨_, _, _, h, _⟩ := h; rw [h]; rfl
  stays hw h := by obtain ⟨a1, a2, a3, h, h1⟩ := h; exact ⟨a1, a2, a3, h, h1.stays hw⟩
  more hw h := by obtain ⟨a1, a2, a3, h, h1⟩ := h; exact ⟨a1, a2, a3, h, h1.more hw⟩
def repPart : Rep Part where
  size := 6
  cells w B x cs := ∃ Al nl cl Ao no co Aq nq cq, cs = [.int .i64 x.cursor, .slice Al nl cl, .int .i64 x.lost, .int .i64 x.forbidden, .slice Ao no co, .slice Aq nq cq] ∧ SliceOf repEntry w B Al nl cl x.log ∧ SliceOf (Rep.int .i64) w B Ao no co x.owners ∧ SliceOf (Rep.int .i64).slice w B Aq nq cq x.queues
  length h := by obtain ⟨_, _, _, _, _, _, _, _, _, h, _⟩ := h; rw [h]; rfl
  stays hw h := by obtain ⟨a1, a2, a3, a4, a5, a6, a7, a8, a9, h, h1, h2, h3⟩ := h; exact ⟨a1, a2, a3, a4, a5, a6, a7, a8, a9, h, h1.stays hw, h2.stays hw, h3.stays hw⟩
  more hw h := by obtain ⟨a1, a2, a3, a4, a5, a6, a7, a8, a9, h, h1, h2, h3⟩ := h; exact ⟨a1, a2, a3, a4, a5, a6, a7, a8, a9, h, h1.more hw, h2.more hw, h3.more hw⟩
/-- A thing in a slice, wherever the walk stands. -/
theorem sl_here {α : Type} {R : Rep α} {w : World} {B : Nat} {A : Option Addr} {n c : Nat} {l : List α} (h : SliceOf R w B A n c l) (hB : B ≤ w.heap.size) (i : Nat) (hi : i < l.length) :
    ∃ g o cs, A = some ⟨g, o, none⟩ ∧ cs.length = R.size ∧ ∀ W, New w W → (∀ j, j < R.size → W.cell? ⟨g, o + i * R.size + j, none⟩ = cs[j]?) ∧ R.cells W B l[i] cs := by
  have hn := h.len
  obtain ⟨g, o, e, hb, hc⟩ := h.get (by omega)
  obtain ⟨es, g1, g2⟩ := hc i hi
  refine ⟨g, o, es, e, R.length g2, fun W hW => ⟨fun j hj => (hW.cell (p := ⟨g, o + i * R.size + j, none⟩) (by show g < _; omega) id).trans (g1 j hj), R.stays (fun p hp => hW.cell (by omega) id) g2⟩⟩
/-- Lists that are the same so far. -/
theorem take_next {α : Type} {a b : List α} {j : Nat} (h1 : j < a.length) (h2 : j < b.length) (ht : a.take j = b.take j) (e : a[j] = b[j]) : a.take (j + 1) = b.take (j + 1) := by
  rw [List.take_succ_eq_append_getElem h1, List.take_succ_eq_append_getElem h2, ht, e]
end Go.Proofs.Ytgdmajockejpgaa.View
