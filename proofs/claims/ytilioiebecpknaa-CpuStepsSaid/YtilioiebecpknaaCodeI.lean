/- Instructions in memory (the head of XCodeM, for seats that do not reach May). -/
import Derived.Test.YtilioiebecpknaaCodeG
namespace Go.Proofs.Ytilioiebecpknaa.Code
open Go.RowKit Go.Fb Go.BytesP Go.CodeP
set_option linter.unusedVariables false

/-- The cells of an instruction. -/
def cellsI (x : Ins) : List Value := [.int .i64 x.op, .int .i64 x.a, .int .i64 x.b, .int .i64 x.c, .int .i64 x.imm]
/-- An instruction whose numbers fit. -/
def Wf (x : Ins) : Prop := (Lit.int .i64 x.op).wf = true ∧ (Lit.int .i64 x.a).wf = true ∧ (Lit.int .i64 x.b).wf = true ∧ (Lit.int .i64 x.c).wf = true ∧ (Lit.int .i64 x.imm).wf = true
/-- How an instruction lies. -/
def repIns : Rep Ins where
  size := 5
  cells _ _ x cs := cs = cellsI x ∧ Wf x
  length h := by rw [h.1]; rfl
  stays _ h := h
  more _ h := h
theorem wf_bd {x : Ins} (h : Wf x) : -9223372036854775808 ≤ x.imm ∧ x.imm ≤ 9223372036854775807 := bounds_i64 h.2.2.2.2
theorem opens_ins : Opens Try.prog repIns 32 := by
  have h : Opens Try.prog (((Rep.int .i64).pair ((Rep.int .i64).pair ((Rep.int .i64).pair ((Rep.int .i64).pair ((Rep.int .i64).pair Rep.unit)))))) 32 := opens_struct Try.underlying32 (by kernel_rfl)
    (opensAt_cons rfl (by kernel_rfl) (opens_int Try.underlying3) (opensAt_cons rfl (by kernel_rfl) (opens_int Try.underlying3) (opensAt_cons rfl (by kernel_rfl) (opens_int Try.underlying3) (opensAt_cons rfl (by kernel_rfl) (opens_int Try.underlying3) (opensAt_cons rfl (by kernel_rfl) (opens_int Try.underlying2) opensAt_nil)))))
  intro H enc w fuel cs y hy
  obtain ⟨x, hx⟩ := h H enc w fuel cs y hy
  obtain ⟨_, _, rfl, ⟨rfl, h1⟩, _, _, rfl, ⟨rfl, h2⟩, _, _, rfl, ⟨rfl, h3⟩, _, _, rfl, ⟨rfl, h4⟩, _, _, rfl, ⟨rfl, h5⟩, rfl⟩ := hx
  exact ⟨⟨x.1, x.2.1, x.2.2.1, x.2.2.2.1, x.2.2.2.2.1⟩, rfl, h1, h2, h3, h4, h5⟩
theorem ins_at {w : World} {B : Nat} {A : Option Addr} {n c : Nat} {l : List Ins} (h : SliceOf repIns w B A n c l) (hn : 0 < n) :
    ∃ b o, A = some ⟨b, o, none⟩ ∧ b < B ∧ ∀ i (h : i < l.length), w.cell? ⟨b, o + i * 5, none⟩ = some (.int .i64 l[i].op) ∧ w.cell? ⟨b, o + i * 5 + 1, none⟩ = some (.int .i64 l[i].a) ∧ w.cell? ⟨b, o + i * 5 + 2, none⟩ = some (.int .i64 l[i].b) ∧ w.cell? ⟨b, o + i * 5 + 3, none⟩ = some (.int .i64 l[i].c) ∧ w.cell? ⟨b, o + i * 5 + 4, none⟩ = some (.int .i64 l[i].imm) := by
  obtain ⟨b, o, e, hb, hc⟩ := h.get hn
  refine ⟨b, o, e, hb, fun i hi => ?_⟩
  obtain ⟨es, g1, g2, _⟩ := hc i hi
  subst g2
  exact ⟨g1 0 (by decide), g1 1 (by decide), g1 2 (by decide), g1 3 (by decide), g1 4 (by decide)⟩
theorem ins_wf {w : World} {B : Nat} {A : Option Addr} {n c : Nat} {l : List Ins} (h : SliceOf repIns w B A n c l) : ∀ x ∈ l, Wf x := by
  intro x hx
  obtain ⟨i, hi, rfl⟩ := List.mem_iff_getElem.1 hx
  obtain ⟨b, o, _, _, hc⟩ := h.get (by have := h.len; omega)
  obtain ⟨es, _, _, g⟩ := hc i hi
  exact g
end Go.Proofs.Ytilioiebecpknaa.Code
