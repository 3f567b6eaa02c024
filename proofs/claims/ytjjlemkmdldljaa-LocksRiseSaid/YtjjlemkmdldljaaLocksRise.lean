/- LocksRise: where everybody takes locks above all that they hold alone, nobody waits in a ring, and who came first has a lock first.
No condition: of any number of locks and any script. -/
import Derived.Test.YtjjlemkmdldljaaRows
import Derived.Test.YtjjlemkmdldljaaLaw
import Derived.Test.YtjjlemkmdldljaaLocksRy
namespace Go.Proofs.Ytjjlemkmdldljaa.locksRise
open Go.RowKit Go.Fb Go.ChangeShapes Go.WideShapes Go.ChangeAt
set_option linter.unusedVariables false
theorem own : ownKnob Try.prog.godebug = none := by kernel_rfl
theorem laidOut : laidOutB Try.prog = true := by kernel_rfl
theorem readable : ∀ t ∈ Try.f5.params.toList, Try.prog.readableRec t = true ∧ t < Try.prog.types.size := by
  intro t ht
  rw [Try.params5] at ht
  simp only [List.mem_cons, List.not_mem_nil, or_false] at ht
  rcases ht with rfl | rfl <;> exact ⟨by kernel_rfl, of_decide_eq_true (by kernel_rfl)⟩
theorem says : SaysTrue Rows.locksRiseSpec Try.f5.params.size := by
  intro H ds h
  rw [Try.params5] at h
  match ds, h with
  | [d1, d2], _ => exact ⟨rfl, rfl, rfl⟩
set_option maxRecDepth 100000 in
theorem walk {H : Type} {enc : TypeId × Value → H} (W : World) (args : Array Value) (ha : ∀ (j : Nat) t v, Try.f5.params[j]? = some t → args[j]? = some v → (∃ base, Value.okWide Try.prog W .any base t v) ∧ ∃ d p, DataW.Trod enc Try.prog W 0 (fun _ => true) true t v d p) (hs : args.size = Try.f5.params.size) :
    Calls Try.prog 5 args W fun e W' => e = .returned (.bool true) ∧ Below W.heap.size W W' := by
  rw [Try.params5] at ha hs
  obtain ⟨l⟩ := args
  match l, hs with
  | [v0, v1], _ =>
    obtain ⟨⟨base0, hv0⟩, e0, p0, ht0⟩ := ha 0 3 v0 rfl rfl
    obtain ⟨⟨base1, hv1⟩, e1, p1, ht1⟩ := ha 1 23 v1 rfl rfl
    clear ha
    obtain ⟨x0, rfl, w0⟩ := arg_int Try.underlying3 ht0 hv0
    obtain ⟨A1, n1, c1, l1, rfl, h1⟩ := arg_slice (R := Locks.repOp) Try.underlying23 (by kernel_rfl) (by decide) (Locks.opens_op) ht1 hv1
    exact (Locks.rise_walk x0 A1 n1 c1 l1 W h1).mono fun e W' h => ⟨h.1, h.2.below⟩
set_option maxRecDepth 100000 in
theorem lifted (os : Os) (started : os.Started) (H : Type) (enc : TypeId × Value → H) :
    ReturnsInHanded {} Try.checked os 5 .any (Rows.locksRiseSpec.pre6 enc Try.prog Try.f5 Rows.locksRiseRow.domain false) (Rows.locksRiseSpec.post enc Try.prog Try.f5 false true false false) :=
  law_lifted (C := Try.checked) started own (by kernel_rfl) Try.func5
    (ChangeSpec.witness6 (enc := enc) (C := Try.checked) false ⟨#[], #[.int .i64 0, .slice none 0 0], []⟩ 8 (by kernel_rfl) (by kernel_rfl) (by kernel_rfl) (by kernel_rfl))
    laidOut readable rfl Try.underlying4 rfl says (fun W args ha hs => walk W args ha hs)
theorem over : Rows.locksRiseRow.holds Try.pinned (OpenSpec.ofChange Rows.locksRiseSpec) :=
  OpenClaim.holds_of_wide 5 Try.f5 rfl rfl rfl rfl rfl rfl rfl ⟨rfl, rfl, rfl, rfl, rfl⟩ rfl rfl rfl rfl rfl (by kernel_rfl) Try.func5 (by kernel_rfl)
    (of_decide_eq_true (by kernel_rfl)) (by unfold Func.isWrapper; first | (rw [if_pos (by decide +kernel)]; kernel_rfl) | (rw [if_neg (by decide +kernel)]; exact ⟨rfl, rfl⟩))
    (fun os started H enc _ => lifted os started H enc)
theorem proved : Rows.LocksRiseSaid := over
#print axioms proved
end Go.Proofs.Ytjjlemkmdldljaa.locksRise
