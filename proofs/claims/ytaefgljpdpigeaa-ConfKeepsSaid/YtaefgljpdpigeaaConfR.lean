/- How a config lies (layer 14). -/
import Derived.Test.YtaefgljpdpigeaaConfP
namespace Go.Proofs.Ytaefgljpdpigeaa.Conf
open Go.RowKit Go.Fb Go.CodeP
set_option linter.unusedVariables false
/-- How a process lies. -/
def repProc : Rep (Int × List Ins) where
  size := 2
  cells w B x cs := ∃ A c, cs = [.int .i64 x.1, .slice A x.2.length c] ∧ SliceOf Code.repIns w B A x.2.length c x.2 ∧ (Lit.int .i64 x.1).wf = true
  length h := by obtain ⟨_, _, h, _⟩ := h; rw [h]; rfl
  stays hw h := by obtain ⟨A, c, h, h1, h2⟩ := h; exact ⟨A, c, h, h1.stays hw, h2⟩
  more hB h := by obtain ⟨A, c, h, h1, h2⟩ := h; exact ⟨A, c, h, h1.more hB, h2⟩
/-- The cells of a config. -/
def confC (c : Cf) (Al : Option Addr) (cl : Nat) (At : Option Addr) (ct : Nat) (Ap : Option Addr) (cp : Nat) : List Value :=
  [.slice Al c.labels.length cl, .slice At c.table.length ct, .int .i64 c.fuel, .int .i64 c.lane, .int .i64 c.locks, .int .i64 c.log, .slice Ap c.procs.length cp]
/-- How a config lies. -/
def repConf : Rep Cf where
  size := 7
  cells w B c cs := ∃ Al cl At ct Ap cp, cs = confC c Al cl At ct Ap cp ∧ SliceOf (Rep.int .u64) w B Al c.labels.length cl c.labels ∧ SliceOf (Rep.int .i64) w B At c.table.length ct c.table ∧ SliceOf repProc w B Ap c.procs.length cp c.procs ∧
    ((Lit.int .i64 c.fuel).wf = true ∧ (Lit.int .i64 c.lane).wf = true ∧ (Lit.int .i64 c.locks).wf = true ∧ (Lit.int .i64 c.log).wf = true)
  length h := by obtain ⟨_, _, _, _, _, _, h, _⟩ := h; rw [h]; rfl
  stays hw h := by obtain ⟨Al, cl, At, ct, Ap, cp, h, h1, h2, h3, h4⟩ := h; exact ⟨Al, cl, At, ct, Ap, cp, h, h1.stays hw, h2.stays hw, h3.stays hw, h4⟩
  more hB h := by obtain ⟨Al, cl, At, ct, Ap, cp, h, h1, h2, h3, h4⟩ := h; exact ⟨Al, cl, At, ct, Ap, cp, h, h1.more hB, h2.more hB, h3.more hB, h4⟩
theorem proc_at {w : World} {B : Nat} {A : Option Addr} {n c : Nat} {l : List (Int × List Ins)} (h : SliceOf repProc w B A n c l) (hn : 0 < n) :
    ∃ b o, A = some ⟨b, o, none⟩ ∧ b < B ∧ ∀ i (h : i < l.length), ∃ A' c', (w.cell? ⟨b, o + i * 2, none⟩ = some (.int .i64 l[i].1) ∧ w.cell? ⟨b, o + i * 2 + 1, none⟩ = some (.slice A' l[i].2.length c')) ∧ SliceOf Code.repIns w B A' l[i].2.length c' l[i].2 ∧ (Lit.int .i64 l[i].1).wf = true := by
  obtain ⟨b, o, e, hb, hc⟩ := h.get hn
  refine ⟨b, o, e, hb, fun i hi => ?_⟩
  obtain ⟨es, g1, A', c', rfl, g2, g3⟩ := hc i hi
  exact ⟨A', c', ⟨g1 0 (by decide), g1 1 (by decide)⟩, g2, g3⟩
end Go.Proofs.Ytaefgljpdpigeaa.Conf
