/- Instructions as what is appended (layer 6). -/
import Derived.Test.YtaefgljpdpigeaaCodeEc
namespace Go.Proofs.Ytaefgljpdpigeaa.Code
open Go.RowKit Go.Fb Go.BytesP Go.CodeP
set_option linter.unusedVariables false
theorem tyIns : SliceTy Try.prog 28 62 5 40 := by
  obtain ⟨i, hi, hz, hs, hb⟩ := info_parts (P := Try.prog) (e := 62) (z := .agg #[.int .i64 0, .int .i64 0, .int .i64 0, .int .i64 0, .int .i64 0]) (size := 5) (bytes := 40) (by kernel_rfl)
  exact ⟨Try.underlying28, ⟨i, _, hi, hz, hs, hb, rfl⟩, by decide⟩
theorem cellsI_one (x : Ins) : ∀ u ∈ cellsI x, u.oneCell' = true := by
  intro u hu
  simp only [cellsI, List.mem_cons, List.not_mem_nil, or_false] at hu
  rcases hu with rfl | rfl | rfl | rfl | rfl <;> rfl
theorem wf_get (w : List UInt8) (h : w.length = 12) : Wf (get w) := by
  obtain ⟨_, h1, h2⟩ := enc_get h
  have b0 := (w.getD 0 0).toNat_lt
  have b1 := (w.getD 1 0).toNat_lt
  have b2 := (w.getD 2 0).toNat_lt
  have b3 := (w.getD 3 0).toNat_lt
  refine ⟨?_, ?_, ?_, ?_, ?_⟩ <;> simp [Lit.wf, IntKind.min, IntKind.max, IntKind.signed, IntKind.bits, CodeP.get] at * <;> omega
end Go.Proofs.Ytaefgljpdpigeaa.Code
