/- The walk of CpuSteps (layer 13), of every core and code. -/
import Derived.Test.YtilioiebecpknaaCpuLa
import Derived.Test.YtilioiebecpknaaLaw
namespace Go.Proofs.Ytilioiebecpknaa.CpuR
open Go.RowKit Go.Fb Go.BytesP Go.CodeP Go.CpuP _root_.Go.Proofs.Ytilioiebecpknaa.Code _root_.Go.Proofs.Ytilioiebecpknaa.Cpu
set_option linter.unusedVariables false
theorem steps_walk (c : Core) (A : Option Addr) (n k : Nat) (l : List Ins) (tick self reply from_ : Int) (w : World) (hl : SliceOf repIns w w.heap.size A n k l) (hc0 : In8 c) (ht : R64 tick) (hs : R64 self) :
    Calls Try.prog 5 #[coreV c, .slice A n k, .int .i64 tick, .int .i64 self, .int .i64 reply, .int .i64 from_] w fun e w' => e = .returned (.bool true) ∧ New w w' := by
  by_cases h : n ≤ 65536
  · exact small_walk c A n k l tick self reply from_ w hl hc0 ht hs h
  · exact big_walk c A n k l tick self reply from_ w hl hc0 ht hs (by omega)
/-- How a core lies, its registers in their range. -/
def repCoreI : Rep Core where
  size := 9
  cells _ _ x cs := cs = (coreC x).toList ∧ In8 x
  length h := by rw [h.1]; rfl
  stays _ h := h
  more _ h := h
theorem opens_coreI : Opens Try.prog repCoreI 25 := by
  have h : Opens Try.prog ((Rep.int .i64).pair ((Rep.row .i64 8).pair Rep.unit)) 25 := opens_struct Try.underlying25 (by kernel_rfl)
    (opensAt_cons rfl (by kernel_rfl) (opens_int Try.underlying3) (opensAt_cons rfl (by kernel_rfl) (opens_row Try.underlying23 Try.underlying2 (by kernel_rfl) (by kernel_rfl)) opensAt_nil))
  intro H enc w fuel cs y hy
  obtain ⟨x, hx⟩ := h H enc w fuel cs y hy
  obtain ⟨_, _, rfl, ⟨rfl, h1⟩, _, _, rfl, ⟨rfl, h2, h3⟩, rfl⟩ := hx
  obtain ⟨p, l, u⟩ := x
  simp only at h2 h3 ⊢
  match l, h2, h3 with
  | [a0, a1, a2, a3, a4, a5, a6, a7], _, h3 =>
    exact ⟨⟨p, a0, a1, a2, a3, a4, a5, a6, a7⟩, rfl, bounds_i64 (h3 a0 (by simp)), bounds_i64 (h3 a1 (by simp)), bounds_i64 (h3 a2 (by simp)), bounds_i64 (h3 a3 (by simp)), bounds_i64 (h3 a4 (by simp)), bounds_i64 (h3 a5 (by simp)), bounds_i64 (h3 a6 (by simp)), bounds_i64 (h3 a7 (by simp))⟩
theorem steps_law (cs : Array Value) (c : Core) (B : Nat) (A : Option Addr) (n k : Nat) (l : List Ins) (tick self reply from_ : Int) (w : World) (h : repCoreI.cells w B c cs.toList) (hl : SliceOf repIns w w.heap.size A n k l) (ht : R64 tick) (hs : R64 self) :
    Calls Try.prog 5 #[.agg cs, .slice A n k, .int .i64 tick, .int .i64 self, .int .i64 reply, .int .i64 from_] w fun e w' => e = .returned (.bool true) ∧ New w w' := by
  obtain ⟨h1, h2⟩ := h
  have e : cs = coreC c := by
    cases cs with
    | mk l => exact congrArg List.toArray (show l = (coreC c).toList from h1)
  rw [e]
  exact steps_walk c A n k l tick self reply from_ w hl h2 ht hs
end Go.Proofs.Ytilioiebecpknaa.CpuR
