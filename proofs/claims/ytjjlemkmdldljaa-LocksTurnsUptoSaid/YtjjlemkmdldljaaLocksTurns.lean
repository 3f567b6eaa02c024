/- every call of package locks, in every order, against the reference -/
import Derived.Test.YtjjlemkmdldljaaRows
import Derived.Test.YtjjlemkmdldljaaLaw
import Derived.Test.YtjjlemkmdldljaaUp
import Derived.Test.YtjjlemkmdldljaaLocksV
namespace Go.Proofs.Ytjjlemkmdldljaa.locksTurns
open Go.RowKit Go.Fb Go.ChangeShapes Go.WideShapes Go.ChangeAt
set_option linter.unusedVariables false
theorem own : ownKnob Try.prog.godebug = none := by kernel_rfl
theorem laidOut : laidOutB Try.prog = true := by kernel_rfl
theorem readable : ∀ t ∈ Try.f4.params.toList, Try.prog.readableRec t = true ∧ t < Try.prog.types.size := by
  intro t ht
  rw [Try.params4] at ht
  simp only [List.mem_cons, List.not_mem_nil, or_false] at ht
  rcases ht with rfl | rfl <;> exact ⟨by kernel_rfl, of_decide_eq_true (by kernel_rfl)⟩
theorem says : SaysTrue Rows.locksTurnsSpec Try.f4.params.size := by
  intro H ds h
  rw [Try.params4] at h
  match ds, h with
  | [d1, d2], _ => exact ⟨rfl, rfl, rfl⟩
set_option maxRecDepth 100000 in
theorem walk {H : Type} {enc : TypeId × Value → H} (W : World) (args : Array Value) (ha : ∀ (j : Nat) t v, Try.f4.params[j]? = some t → args[j]? = some v → (∃ base, Value.okWide Try.prog W .any base t v) ∧ ∃ d p, DataW.Trod enc Try.prog W 0 (fun _ => true) true t v d p ∧ Rows.uptoBulk d ≤ 1048576) (hs : args.size = Try.f4.params.size) :
    Calls Try.prog 4 args W fun e W' => e = .returned (.bool true) ∧ Below W.heap.size W W' := by
  rw [Try.params4] at ha hs
  obtain ⟨l⟩ := args
  match l, hs with
  | [v0, v1], _ =>
    obtain ⟨⟨base0, hv0⟩, e0, p0, ht0, g0⟩ := ha 0 3 v0 rfl rfl
    obtain ⟨⟨base1, hv1⟩, e1, p1, ht1, g1⟩ := ha 1 23 v1 rfl rfl
    clear ha
    obtain ⟨x0, rfl, w0⟩ := arg_int Try.underlying3 ht0 hv0
    obtain ⟨A1, n1, c1, l1, rfl, h1⟩ := arg_slice (R := Locks.repOp) Try.underlying23 (by kernel_rfl) (by decide) (Locks.opens_op) ht1 hv1
    exact (Locks.turns_walk x0 A1 n1 c1 l1 W h1 (Nat.le_trans (Up.bulk_slice Try.underlying23 ht1) g1)).mono fun e W' h => ⟨h.1, h.2.below⟩
set_option maxRecDepth 100000 in
theorem lifted (os : Os) (started : os.Started) (H : Type) (enc : TypeId × Value → H) (F : Stop.Interp) :
    ReturnsInHanded {} Try.checked os 4 .any ((Rows.OpenSpec.upto Rows.locksTurnsSpec).pre6 enc Try.prog Try.f4 Rows.locksTurnsUptoRow.domain false) (((Rows.OpenSpec.upto Rows.locksTurnsSpec).at F).post enc Try.prog Try.f4 false true false false) :=
  Up.law_upto (C := Try.checked) (F := F) started own (by kernel_rfl) Try.func4
    (OpenSpec.witness (enc := enc) (C := Try.checked) (s := Rows.OpenSpec.upto Rows.locksTurnsSpec) (k := Rows.uptoSmall) rfl false ⟨#[], #[.int .i64 0, .slice none 0 0], []⟩ 8 (by kernel_rfl) (by kernel_rfl) (by kernel_rfl) (x := ([.lit (.int .i64 0), .nil], [], [])) (by kernel_rfl) rfl (by kernel_rfl))
    laidOut readable rfl Try.underlying4 rfl says (fun W args ha hs => walk W args ha hs)
theorem proved : Rows.LocksTurnsUptoSaid :=
  OpenClaim.holds_of_cond 4 Try.f4 rfl rfl rfl rfl rfl rfl rfl ⟨rfl, rfl, rfl, rfl, rfl⟩ rfl rfl rfl rfl rfl (by kernel_rfl) Try.func4 (by kernel_rfl)
    (of_decide_eq_true (by kernel_rfl)) (by unfold Func.isWrapper; first | (rw [if_pos (by decide +kernel)]; kernel_rfl) | (rw [if_neg (by decide +kernel)]; exact ⟨rfl, rfl⟩))
    (fun os started H enc _ F => lifted os started H enc F)
#print axioms proved
end Go.Proofs.Ytjjlemkmdldljaa.locksTurns
