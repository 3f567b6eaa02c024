/- ValidTight: a program is taken with as many units as Longest tells, and with no fewer; what may not be at all is not taken either; without locks nothing is too long.
No condition: of any program and any number of locks. -/
import Derived.Test.YtjhiaicpgajeoaaRows
import Derived.Test.YtjhiaicpgajeoaaLaw
import Derived.Test.YtjhiaicpgajeoaaValidTw
namespace Go.Proofs.Ytjhiaicpgajeoaa.validTight
open Go.RowKit Go.Fb Go.ChangeShapes Go.WideShapes Go.ChangeAt
set_option linter.unusedVariables false
theorem own : ownKnob Try.prog.godebug = none := by kernel_rfl
theorem laidOut : laidOutB Try.prog = true := by kernel_rfl
theorem readable : ∀ t ∈ Try.f6.params.toList, Try.prog.readableRec t = true ∧ t < Try.prog.types.size := by
  intro t ht
  rw [Try.params6] at ht
  simp only [List.mem_cons, List.not_mem_nil, or_false] at ht
  rcases ht with rfl | rfl <;> exact ⟨by kernel_rfl, of_decide_eq_true (by kernel_rfl)⟩
theorem says : SaysTrue Rows.validTightSpec Try.f6.params.size := by
  intro H ds h
  rw [Try.params6] at h
  match ds, h with
  | [d1, d2], _ => exact ⟨rfl, rfl, rfl⟩
set_option maxRecDepth 100000 in
theorem walk {H : Type} {enc : TypeId × Value → H} (W : World) (args : Array Value) (ha : ∀ (j : Nat) t v, Try.f6.params[j]? = some t → args[j]? = some v → (∃ base, Value.okWide Try.prog W .any base t v) ∧ ∃ d p, DataW.Trod enc Try.prog W 0 (fun _ => true) true t v d p) (hs : args.size = Try.f6.params.size) :
    Calls Try.prog 6 args W fun e W' => e = .returned (.bool true) ∧ Below W.heap.size W W' := by
  rw [Try.params6] at ha hs
  obtain ⟨l⟩ := args
  match l, hs with
  | [v0, v1], _ =>
    obtain ⟨⟨base0, hv0⟩, e0, p0, ht0⟩ := ha 0 23 v0 rfl rfl
    obtain ⟨⟨base1, hv1⟩, e1, p1, ht1⟩ := ha 1 3 v1 rfl rfl
    clear ha
    obtain ⟨A0, n0, c0, l0, rfl, h0⟩ := arg_slice (R := Code.repIns) Try.underlying23 (by kernel_rfl) (by decide) (Code.opens_ins) ht0 hv0
    obtain ⟨x1, rfl, w1⟩ := arg_int Try.underlying3 ht1 hv1
    exact (Valid.tight_walk h0).mono fun e W' h => ⟨h.1, h.2.below⟩
set_option maxRecDepth 100000 in
theorem lifted (os : Os) (started : os.Started) (H : Type) (enc : TypeId × Value → H) :
    ReturnsInHanded {} Try.checked os 6 .any (Rows.validTightSpec.pre6 enc Try.prog Try.f6 Rows.validTightRow.domain false) (Rows.validTightSpec.post enc Try.prog Try.f6 false true false false) :=
  law_lifted (C := Try.checked) started own (by kernel_rfl) Try.func6
    (ChangeSpec.witness6 (enc := enc) (C := Try.checked) false ⟨#[], #[.slice none 0 0, .int .i64 0], []⟩ 8 (by kernel_rfl) (by kernel_rfl) (by kernel_rfl) (by kernel_rfl))
    laidOut readable rfl Try.underlying4 rfl says (fun W args ha hs => walk W args ha hs)
theorem over : Rows.validTightRow.holds Try.pinned (OpenSpec.ofChange Rows.validTightSpec) :=
  OpenClaim.holds_of_wide 6 Try.f6 rfl rfl rfl rfl rfl rfl rfl ⟨rfl, rfl, rfl, rfl, rfl⟩ rfl rfl rfl rfl rfl (by kernel_rfl) Try.func6 (by kernel_rfl)
    (of_decide_eq_true (by kernel_rfl)) (by unfold Func.isWrapper; first | (rw [if_pos (by decide +kernel)]; kernel_rfl) | (rw [if_neg (by decide +kernel)]; exact ⟨rfl, rfl⟩))
    (fun os started H enc _ => lifted os started H enc)
theorem proved : Rows.ValidTightSaid := over
#print axioms proved
end Go.Proofs.Ytjhiaicpgajeoaa.validTight
