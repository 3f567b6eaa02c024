/- ValidChecks: any program, any numbers: what is wrong, and where; how long locks are held; the program stays, room and all.
No condition: of any program and any numbers. -/
import Derived.Test.YtjhiaicpgajeoaaRows
import Derived.Test.YtjhiaicpgajeoaaLaw
import Derived.Test.YtjhiaicpgajeoaaValidO
namespace Go.Proofs.Ytjhiaicpgajeoaa.validChecks
open Go.RowKit Go.Fb Go.ChangeShapes Go.WideShapes Go.ChangeAt
set_option linter.unusedVariables false
theorem own : ownKnob Try.prog.godebug = none := by kernel_rfl
theorem laidOut : laidOutB Try.prog = true := by kernel_rfl
theorem readable : ∀ t ∈ Try.f4.params.toList, Try.prog.readableRec t = true ∧ t < Try.prog.types.size := by
  intro t ht
  rw [Try.params4] at ht
  simp only [List.mem_cons, List.not_mem_nil, or_false] at ht
  rcases ht with rfl | rfl | rfl <;> exact ⟨by kernel_rfl, of_decide_eq_true (by kernel_rfl)⟩
theorem says : SaysTrue Rows.validChecksSpec Try.f4.params.size := by
  intro H ds h
  rw [Try.params4] at h
  match ds, h with
  | [d1, d2, d3], _ => exact ⟨rfl, rfl, rfl⟩
set_option maxRecDepth 100000 in
theorem walk {H : Type} {enc : TypeId × Value → H} (W : World) (args : Array Value) (ha : ∀ (j : Nat) t v, Try.f4.params[j]? = some t → args[j]? = some v → (∃ base, Value.okWide Try.prog W .any base t v) ∧ ∃ d p, DataW.Trod enc Try.prog W 0 (fun _ => true) true t v d p) (hs : args.size = Try.f4.params.size) :
    Calls Try.prog 4 args W fun e W' => e = .returned (.bool true) ∧ Below W.heap.size W W' := by
  rw [Try.params4] at ha hs
  obtain ⟨l⟩ := args
  match l, hs with
  | [v0, v1, v2], _ =>
    obtain ⟨⟨base0, hv0⟩, e0, p0, ht0⟩ := ha 0 23 v0 rfl rfl
    obtain ⟨⟨base1, hv1⟩, e1, p1, ht1⟩ := ha 1 3 v1 rfl rfl
    obtain ⟨⟨base2, hv2⟩, e2, p2, ht2⟩ := ha 2 3 v2 rfl rfl
    clear ha
    obtain ⟨A0, n0, c0, l0, rfl, h0⟩ := arg_slice (R := Code.repIns) Try.underlying23 (by kernel_rfl) (by decide) (Code.opens_ins) ht0 hv0
    obtain ⟨x1, rfl, w1⟩ := arg_int Try.underlying3 ht1 hv1
    obtain ⟨x2, rfl, w2⟩ := arg_int Try.underlying3 ht2 hv2
    exact (Valid.checks_walk h0 w2).mono fun e W' h => ⟨h.1, h.2.below⟩
set_option maxRecDepth 100000 in
theorem lifted (os : Os) (started : os.Started) (H : Type) (enc : TypeId × Value → H) :
    ReturnsInHanded {} Try.checked os 4 .any (Rows.validChecksSpec.pre6 enc Try.prog Try.f4 Rows.validChecksRow.domain false) (Rows.validChecksSpec.post enc Try.prog Try.f4 false true false false) :=
  law_lifted (C := Try.checked) started own (by kernel_rfl) Try.func4
    (ChangeSpec.witness6 (enc := enc) (C := Try.checked) false ⟨#[], #[.slice none 0 0, .int .i64 0, .int .i64 0], []⟩ 8 (by kernel_rfl) (by kernel_rfl) (by kernel_rfl) (by kernel_rfl))
    laidOut readable rfl Try.underlying4 rfl says (fun W args ha hs => walk W args ha hs)
theorem over : Rows.validChecksRow.holds Try.pinned (OpenSpec.ofChange Rows.validChecksSpec) :=
  OpenClaim.holds_of_wide 4 Try.f4 rfl rfl rfl rfl rfl rfl rfl ⟨rfl, rfl, rfl, rfl, rfl⟩ rfl rfl rfl rfl rfl (by kernel_rfl) Try.func4 (by kernel_rfl)
    (of_decide_eq_true (by kernel_rfl)) (by unfold Func.isWrapper; first | (rw [if_pos (by decide +kernel)]; kernel_rfl) | (rw [if_neg (by decide +kernel)]; exact ⟨rfl, rfl⟩))
    (fun os started H enc _ => lifted os started H enc)
theorem proved : Rows.ValidChecksSaid := over
#print axioms proved
end Go.Proofs.Ytjhiaicpgajeoaa.validChecks
