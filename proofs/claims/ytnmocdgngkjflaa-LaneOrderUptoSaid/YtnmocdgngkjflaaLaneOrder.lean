/- takes of small bulk -/
import Derived.Test.YtnmocdgngkjflaaRows
import Derived.Test.YtnmocdgngkjflaaLaw
import Derived.Test.YtnmocdgngkjflaaUp
import Derived.Test.YtnmocdgngkjflaaLaneR
namespace Go.Proofs.Ytnmocdgngkjflaa.laneOrder
open Go.RowKit Go.Fb Go.ChangeShapes Go.WideShapes Go.ChangeAt
set_option linter.unusedVariables false
theorem own : ownKnob Try.prog.godebug = none := by kernel_rfl
theorem laidOut : laidOutB Try.prog = true := by kernel_rfl
theorem readable : ∀ t ∈ Try.f3.params.toList, Try.prog.readableRec t = true ∧ t < Try.prog.types.size := by
  intro t ht
  rw [Try.params3] at ht
  simp only [List.mem_cons, List.not_mem_nil, or_false] at ht
  rcases ht with rfl | rfl <;> exact ⟨by kernel_rfl, of_decide_eq_true (by kernel_rfl)⟩
theorem says : SaysTrue Rows.laneOrderSpec Try.f3.params.size := by
  intro H ds h
  rw [Try.params3] at h
  match ds, h with
  | [d1, d2], _ => exact ⟨rfl, rfl, rfl⟩
set_option maxRecDepth 100000 in
theorem walk {H : Type} {enc : TypeId × Value → H} (W : World) (args : Array Value) (ha : ∀ (j : Nat) t v, Try.f3.params[j]? = some t → args[j]? = some v → (∃ base, Value.okWide Try.prog W .any base t v) ∧ ∃ d p, DataW.Trod enc Try.prog W 0 (fun _ => true) true t v d p ∧ Rows.uptoBulk d ≤ 1048576) (hs : args.size = Try.f3.params.size) :
    Calls Try.prog 3 args W fun e W' => e = .returned (.bool true) ∧ Below W.heap.size W W' := by
  rw [Try.params3] at ha hs
  obtain ⟨l⟩ := args
  match l, hs with
  | [v0, v1], _ =>
    obtain ⟨⟨base0, hv0⟩, e0, p0, ht0, g0⟩ := ha 0 3 v0 rfl rfl
    obtain ⟨⟨base1, hv1⟩, e1, p1, ht1, g1⟩ := ha 1 22 v1 rfl rfl
    clear ha
    obtain ⟨x0, rfl, w0⟩ := arg_int Try.underlying3 ht0 hv0
    obtain ⟨A1, n1, c1, l1, rfl, h1⟩ := arg_slice (R := Rep.bool) Try.underlying22 (by kernel_rfl) (by decide) (opens_bool Try.underlying4) ht1 hv1
    exact (Lane.order_walk x0 A1 n1 c1 l1 W h1 (Nat.le_trans (Up.bulk_slice Try.underlying22 ht1) g1)).mono fun e W' h => ⟨h.1, h.2.below⟩
set_option maxRecDepth 100000 in
theorem lifted (os : Os) (started : os.Started) (H : Type) (enc : TypeId × Value → H) (F : Stop.Interp) :
    ReturnsInHanded {} Try.checked os 3 .any ((Rows.OpenSpec.upto Rows.laneOrderSpec).pre6 enc Try.prog Try.f3 Rows.laneOrderUptoRow.domain false) (((Rows.OpenSpec.upto Rows.laneOrderSpec).at F).post enc Try.prog Try.f3 false true false false) :=
  Up.law_upto (C := Try.checked) (F := F) started own (by kernel_rfl) Try.func3
    (OpenSpec.witness (enc := enc) (C := Try.checked) (s := Rows.OpenSpec.upto Rows.laneOrderSpec) (k := Rows.uptoSmall) rfl false ⟨#[], #[.int .i64 0, .slice none 0 0], []⟩ 8 (by kernel_rfl) (by kernel_rfl) (by kernel_rfl) (x := ([.lit (.int .i64 0), .nil], [], [])) (by kernel_rfl) rfl (by kernel_rfl))
    laidOut readable rfl Try.underlying4 rfl says (fun W args ha hs => walk W args ha hs)
theorem proved : Rows.LaneOrderUptoSaid :=
  OpenClaim.holds_of_cond 3 Try.f3 rfl rfl rfl rfl rfl rfl rfl ⟨rfl, rfl, rfl, rfl, rfl⟩ rfl rfl rfl rfl rfl (by kernel_rfl) Try.func3 (by kernel_rfl)
    (of_decide_eq_true (by kernel_rfl)) (by unfold Func.isWrapper; first | (rw [if_pos (by decide +kernel)]; kernel_rfl) | (rw [if_neg (by decide +kernel)]; exact ⟨rfl, rfl⟩))
    (fun os started H enc _ F => lifted os started H enc F)
#print axioms proved
end Go.Proofs.Ytnmocdgngkjflaa.laneOrder
