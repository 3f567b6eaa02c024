/- CpuSteps: of every core, code, tick, process, reply and sender, whatever they are (no condition): the program steps as the document says -/
import Derived.Test.YtilioiebecpknaaRows
import Derived.Test.YtilioiebecpknaaLaw
import Derived.Test.YtilioiebecpknaaCpuLc
namespace Go.Proofs.Ytilioiebecpknaa.cpuSteps
open Go.RowKit Go.Fb Go.ChangeShapes Go.WideShapes Go.ChangeAt
set_option linter.unusedVariables false
theorem own : ownKnob Try.prog.godebug = none := by kernel_rfl
theorem laidOut : laidOutB Try.prog = true := by kernel_rfl
theorem readable : ∀ t ∈ Try.f5.params.toList, Try.prog.readableRec t = true ∧ t < Try.prog.types.size := by
  intro t ht
  rw [Try.params5] at ht
  simp only [List.mem_cons, List.not_mem_nil, or_false] at ht
  rcases ht with rfl | rfl | rfl | rfl | rfl | rfl <;> exact ⟨by kernel_rfl, of_decide_eq_true (by kernel_rfl)⟩
theorem says : SaysTrue Rows.cpuStepsSpec Try.f5.params.size := by
  intro H ds h
  rw [Try.params5] at h
  match ds, h with
  | [d1, d2, d3, d4, d5, d6], _ => exact ⟨rfl, rfl, rfl⟩
set_option maxRecDepth 100000 in
theorem walk {H : Type} {enc : TypeId × Value → H} (W : World) (args : Array Value) (ha : ∀ (j : Nat) t v, Try.f5.params[j]? = some t → args[j]? = some v → (∃ base, Value.okWide Try.prog W .any base t v) ∧ ∃ d p, DataW.Trod enc Try.prog W 0 (fun _ => true) true t v d p) (hs : args.size = Try.f5.params.size) :
    Calls Try.prog 5 args W fun e W' => e = .returned (.bool true) ∧ Below W.heap.size W W' := by
  rw [Try.params5] at ha hs
  obtain ⟨l⟩ := args
  match l, hs with
  | [v0, v1, v2, v3, v4, v5], _ =>
    obtain ⟨⟨base0, hv0⟩, e0, p0, ht0⟩ := ha 0 25 v0 rfl rfl
    obtain ⟨⟨base1, hv1⟩, e1, p1, ht1⟩ := ha 1 26 v1 rfl rfl
    obtain ⟨⟨base2, hv2⟩, e2, p2, ht2⟩ := ha 2 2 v2 rfl rfl
    obtain ⟨⟨base3, hv3⟩, e3, p3, ht3⟩ := ha 3 3 v3 rfl rfl
    obtain ⟨⟨base4, hv4⟩, e4, p4, ht4⟩ := ha 4 2 v4 rfl rfl
    obtain ⟨⟨base5, hv5⟩, e5, p5, ht5⟩ := ha 5 2 v5 rfl rfl
    clear ha
    obtain ⟨cs0, x0, rfl, h0⟩ := arg_struct (R := CpuR.repCoreI) Try.underlying25 (CpuR.opens_coreI) ht0 hv0
    obtain ⟨A1, n1, c1, l1, rfl, h1⟩ := arg_slice (R := Code.repIns) Try.underlying26 (by kernel_rfl) (by decide) (Code.opens_ins) ht1 hv1
    obtain ⟨x2, rfl, w2⟩ := arg_int Try.underlying2 ht2 hv2
    obtain ⟨x3, rfl, w3⟩ := arg_int Try.underlying3 ht3 hv3
    obtain ⟨x4, rfl, w4⟩ := arg_int Try.underlying2 ht4 hv4
    obtain ⟨x5, rfl, w5⟩ := arg_int Try.underlying2 ht5 hv5
    exact (CpuR.steps_law cs0 x0 _ A1 n1 c1 l1 x2 x3 x4 x5 W h0 h1 (bounds_i64 w2) (bounds_i64 w3)).mono fun e W' h => ⟨h.1, h.2.below⟩
set_option maxRecDepth 100000 in
theorem lifted (os : Os) (started : os.Started) (H : Type) (enc : TypeId × Value → H) :
    ReturnsInHanded {} Try.checked os 5 .any (Rows.cpuStepsSpec.pre6 enc Try.prog Try.f5 Rows.cpuStepsRow.domain false) (Rows.cpuStepsSpec.post enc Try.prog Try.f5 false true false false) :=
  law_lifted (C := Try.checked) started own (by kernel_rfl) Try.func5
    (ChangeSpec.witness6 (enc := enc) (C := Try.checked) false ⟨#[], #[.agg #[.int .i64 0, .int .i64 0, .int .i64 0, .int .i64 0, .int .i64 0, .int .i64 0, .int .i64 0, .int .i64 0, .int .i64 0], .slice none 0 0, .int .i64 0, .int .i64 0, .int .i64 0, .int .i64 0], []⟩ 8 (by kernel_rfl) (by kernel_rfl) (by kernel_rfl) (by kernel_rfl))
    laidOut readable rfl Try.underlying4 rfl says (fun W args ha hs => walk W args ha hs)
theorem over : Rows.cpuStepsRow.holds Try.pinned (OpenSpec.ofChange Rows.cpuStepsSpec) :=
  OpenClaim.holds_of_wide 5 Try.f5 rfl rfl rfl rfl rfl rfl rfl ⟨rfl, rfl, rfl, rfl, rfl⟩ rfl rfl rfl rfl rfl (by kernel_rfl) Try.func5 (by kernel_rfl)
    (of_decide_eq_true (by kernel_rfl)) (by unfold Func.isWrapper; first | (rw [if_pos (by decide +kernel)]; kernel_rfl) | (rw [if_neg (by decide +kernel)]; exact ⟨rfl, rfl⟩))
    (fun os started H enc _ => lifted os started H enc)
theorem proved : Rows.CpuStepsSaid := over
#print axioms proved
end Go.Proofs.Ytilioiebecpknaa.cpuSteps
