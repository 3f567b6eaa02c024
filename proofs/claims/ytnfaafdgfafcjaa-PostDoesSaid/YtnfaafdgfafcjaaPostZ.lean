/- How the arguments of chapter 10's laws are read; PostFair's walk over them (layer 10). -/
import Derived.Test.YtnfaafdgfafcjaaPostY
namespace Go.Proofs.Ytnfaafdgfafcjaa.Lane
open Go.RowKit Go.Fb
set_option linter.unusedVariables false
/-- How a lane's stand is handed in. -/
def repA : Rep Lane where
  size := 4
  cells w B L cs := ∃ Av cv Aw cw, cs = [.slice Av L.vals.length cv, .slice Aw L.waits.length cw, .int .i64 L.taken, .int .i64 L.dropped] ∧ SliceOf repV w B Av L.vals.length cv L.vals ∧ SliceOf repW w B Aw L.waits.length cw L.waits ∧ ∀ q ∈ L.waits, (Lit.int .i64 q.1).wf = true
  length h := by obtain ⟨_, _, _, _, h, _⟩ := h; rw [h]; rfl
  stays hw h := by obtain ⟨Av, cv, Aw, cw, h, h1, h2, h3⟩ := h; exact ⟨Av, cv, Aw, cw, h, h1.stays hw, h2.stays hw, h3⟩
  more hB h := by obtain ⟨Av, cv, Aw, cw, h, h1, h2, h3⟩ := h; exact ⟨Av, cv, Aw, cw, h, h1.more hB, h2.more hB, h3⟩
def repWf : Rep (Int × Int) := ((Rep.int .i64).pair ((Rep.int .i64).pair Rep.unit)).via fun x => (x.1, x.2, ())
theorem opens_waiter : Opens Try.prog repWf 36 :=
  opens_via (fun x => (x.1, x.2.1)) (fun x => rfl) (opens_struct Try.underlying36 (by kernel_rfl) (opensAt_cons rfl (by kernel_rfl) (opens_int Try.underlying3) (opensAt_cons rfl (by kernel_rfl) (opens_int Try.underlying2) opensAt_nil)))
theorem wf_cells {w : World} {B : Nat} {x : Int × Int} {cs : List Value} (h : repWf.cells w B x cs) : cs = cellsW x ∧ (Lit.int .i64 x.1).wf = true := by
  obtain ⟨_, _, rfl, ⟨rfl, h1⟩, _, _, rfl, ⟨rfl, h2⟩, rfl⟩ := h
  exact ⟨rfl, h1⟩
theorem opens_lane : Opens Try.prog repA 29 := by
  have h : Opens Try.prog (((Rep.int .i64).slice.pair (repWf.slice.pair ((Rep.int .i64).pair ((Rep.int .i64).pair Rep.unit))))) 29 := opens_struct Try.underlying29 (by kernel_rfl)
    (opensAt_cons rfl (by kernel_rfl) (opens_slice Try.underlying26 (by kernel_rfl) (by decide) (opens_int Try.underlying2)) (opensAt_cons rfl (by kernel_rfl) (opens_slice Try.underlying27 (by kernel_rfl) (by decide) opens_waiter) (opensAt_cons rfl (by kernel_rfl) (opens_int Try.underlying3) (opensAt_cons rfl (by kernel_rfl) (opens_int Try.underlying3) opensAt_nil))))
  intro H enc w fuel cs y hy
  obtain ⟨x, hx⟩ := h H enc w fuel cs y hy
  obtain ⟨_, _, rfl, ⟨Av, nv, cv, rfl, hv⟩, _, _, rfl, ⟨Aw, nw, cw, rfl, hw⟩, _, _, rfl, ⟨rfl, h1⟩, _, _, rfl, ⟨rfl, h2⟩, rfl⟩ := hx
  refine ⟨⟨0, x.1, x.2.1, x.2.2.1, x.2.2.2.1⟩, Av, cv, Aw, cw, by rw [hv.len, hw.len]; rfl, by rw [← hv.len]; exact to_rep (R := Rep.int .i64) (S := repV) rfl (fun h => h.1) hv, by rw [← hw.len]; exact to_rep (R := repWf) (S := repW) rfl (fun h => (wf_cells h).1) hw, fun q hq => ?_⟩
  obtain ⟨i, hi, rfl⟩ := List.mem_iff_getElem.1 hq
  obtain ⟨b, o, _, _, hc⟩ := hw.get (by have := hw.len; have hi' : i < x.2.1.length := hi; omega)
  obtain ⟨es, _, g⟩ := hc i hi
  exact (wf_cells g).2
theorem repA_T {w : World} {B : Nat} {A : Option Addr} {n c : Nat} {l : List Lane} (h : SliceOf repA w B A n c l) : SliceOf repT w B A n c l := to_rep (R := repA) (S := repT) rfl (fun h => by obtain ⟨Av, cv, Aw, cw, h, h1, h2, -⟩ := h; exact ⟨Av, cv, Aw, cw, h, h1, h2⟩) h
theorem fair_law {w : World} (room cur which : Int) (hwf : (Lit.int .i64 which).wf = true) {A : Option Addr} {n c : Nat} {Ls : List Lane} {M : Option Addr} {mn mc : Nat} {more : List Int} (hl : SliceOf repA w w.heap.size A n c Ls) (hm : SliceOf (Rep.int .i64) w w.heap.size M mn mc more) :
    Calls Try.prog 3 #[.int .i64 room, .slice A n c, .int .i64 cur, .int .i64 which, .slice M mn mc] w fun e w' => e = .returned (.bool true) ∧ New w w' :=
  fair_walk room cur which (repA_T hl) hm hwf hm.wf
end Go.Proofs.Ytnfaafdgfafcjaa.Lane
