/- ValidRuns: whichever way a program that is taken goes, each lock is taken above all that are held, each that is given is held, for so many units at most, and no Send, Recv and Sleep in between.
No condition: of any program, any numbers and any way. -/
import Derived.Test.YtjhiaicpgajeoaaRows
import Derived.Test.YtjhiaicpgajeoaaLaw
import Derived.Test.YtjhiaicpgajeoaaValidRw
namespace Go.Proofs.Ytjhiaicpgajeoaa.validRuns
open Go.RowKit Go.Fb Go.ChangeShapes Go.WideShapes Go.ChangeAt
set_option linter.unusedVariables false
theorem own : ownKnob Try.prog.godebug = none := by kernel_rfl
theorem laidOut : laidOutB Try.prog = true := by kernel_rfl
theorem readable : ∀ t ∈ Try.f5.params.toList, Try.prog.readableRec t = true ∧ t < Try.prog.types.size := by
  intro t ht
  rw [Try.params5] at ht
  simp only [List.mem_cons, List.not_mem_nil, or_false] at ht
  subst ht
  exact ⟨by kernel_rfl, of_decide_eq_true (by kernel_rfl)⟩
theorem says : SaysTrue Rows.validRunsSpec Try.f5.params.size := by
  intro H ds h
  rw [Try.params5] at h
  match ds, h with
  | [d1], _ => exact ⟨rfl, rfl, rfl⟩
set_option maxRecDepth 100000 in
theorem walk {H : Type} {enc : TypeId × Value → H} (W : World) (args : Array Value) (ha : ∀ (j : Nat) t v, Try.f5.params[j]? = some t → args[j]? = some v → (∃ base, Value.okWide Try.prog W .any base t v) ∧ ∃ d p, DataW.Trod enc Try.prog W 0 (fun _ => true) true t v d p) (hs : args.size = Try.f5.params.size) :
    Calls Try.prog 5 args W fun e W' => e = .returned (.bool true) ∧ Below W.heap.size W W' := by
  rw [Try.params5] at ha hs
  obtain ⟨l⟩ := args
  match l, hs with
  | [v0], _ =>
    obtain ⟨⟨base0, hv0⟩, e0, p0, ht0⟩ := ha 0 36 v0 rfl rfl
    clear ha
    obtain ⟨cs0, x0, rfl, h0⟩ := arg_struct (R := Valid.repWalk) Try.underlying36 (Valid.opens_walk) ht0 hv0
    exact (Valid.runs_law cs0 x0 W h0).mono fun e W' h => ⟨h.1, h.2.below⟩
set_option maxRecDepth 100000 in
theorem lifted (os : Os) (started : os.Started) (H : Type) (enc : TypeId × Value → H) :
    ReturnsInHanded {} Try.checked os 5 .any (Rows.validRunsSpec.pre6 enc Try.prog Try.f5 Rows.validRunsRow.domain false) (Rows.validRunsSpec.post enc Try.prog Try.f5 false true false false) :=
  law_lifted (C := Try.checked) started own (by kernel_rfl) Try.func5
    (ChangeSpec.witness6 (enc := enc) (C := Try.checked) false ⟨#[], #[.agg #[.slice none 0 0, .int .i64 0, .int .i64 0, .slice none 0 0]], []⟩ 8 (by kernel_rfl) (by kernel_rfl) (by kernel_rfl) (by kernel_rfl))
    laidOut readable rfl Try.underlying4 rfl says (fun W args ha hs => walk W args ha hs)
theorem over : Rows.validRunsRow.holds Try.pinned (OpenSpec.ofChange Rows.validRunsSpec) :=
  OpenClaim.holds_of_wide 5 Try.f5 rfl rfl rfl rfl rfl rfl rfl ⟨rfl, rfl, rfl, rfl, rfl⟩ rfl rfl rfl rfl rfl (by kernel_rfl) Try.func5 (by kernel_rfl)
    (of_decide_eq_true (by kernel_rfl)) (by unfold Func.isWrapper; first | (rw [if_pos (by decide +kernel)]; kernel_rfl) | (rw [if_neg (by decide +kernel)]; exact ⟨rfl, rfl⟩))
    (fun os started H enc _ => lifted os started H enc)
theorem proved : Rows.ValidRunsSaid := over
#print axioms proved
end Go.Proofs.Ytjhiaicpgajeoaa.validRuns
