/- Scripts and bytes stay, room too; answers are their owner's. Conditions: none. -/
import Derived.Test.YtgmibjhbneggeaaRows
import Derived.Test.YtgmibjhbneggeaaLaw
import Derived.Test.YtgmibjhbneggeaaScriptH
namespace Go.Proofs.Ytgmibjhbneggeaa.scriptKeeps
open Go.RowKit Go.Fb Go.ChangeShapes Go.WideShapes Go.ChangeAt
set_option linter.unusedVariables false
theorem own : ownKnob Try.prog.godebug = none := by kernel_rfl
theorem laidOut : laidOutB Try.prog = true := by kernel_rfl
theorem readable : ∀ t ∈ Try.f7.params.toList, Try.prog.readableRec t = true ∧ t < Try.prog.types.size := by
  intro t ht
  rw [Try.params7] at ht
  simp only [List.mem_cons, List.not_mem_nil, or_false] at ht
  rcases ht with rfl | rfl <;> exact ⟨by kernel_rfl, of_decide_eq_true (by kernel_rfl)⟩
theorem says : SaysTrue Rows.scriptKeepsSpec Try.f7.params.size := by
  intro H ds h
  rw [Try.params7] at h
  match ds, h with
  | [d1, d2], _ => exact ⟨rfl, rfl, rfl⟩
theorem walk {H : Type} {enc : TypeId × Value → H} (W : World) (args : Array Value) (ha : ∀ (j : Nat) t v, Try.f7.params[j]? = some t → args[j]? = some v → (∃ base, Value.okWide Try.prog W .any base t v) ∧ ∃ d p, DataW.Trod enc Try.prog W 0 (fun _ => true) true t v d p) (hs : args.size = Try.f7.params.size) :
    Calls Try.prog 7 args W fun e W' => e = .returned (.bool true) ∧ Below W.heap.size W W' := by
  rw [Try.params7] at ha hs
  obtain ⟨l⟩ := args
  match l, hs with
  | [v0, v1], _ =>
    obtain ⟨⟨base0, hv0⟩, e0, p0, ht0⟩ := ha 0 23 v0 rfl rfl
    obtain ⟨⟨base1, hv1⟩, e1, p1, ht1⟩ := ha 1 27 v1 rfl rfl
    clear ha
    obtain ⟨A0, n0, c0, l0, rfl, h0⟩ := arg_slice (R := Script.repStep) Try.underlying23 (by kernel_rfl) (by decide) (Script.opens_step) ht0 hv0
    obtain ⟨A1, n1, c1, l1, rfl, h1⟩ := arg_slice (R := Rep.byte) Try.underlying27 (by kernel_rfl) (by decide) (opens_byte Try.underlying5) ht1 hv1
    exact (Script.keeps_walk A0 A1 n0 c0 n1 c1 l0 l1 W h0 h1).mono fun e W' h => ⟨h.1, h.2.below⟩
set_option maxRecDepth 100000 in
theorem lifted (os : Os) (started : os.Started) (H : Type) (enc : TypeId × Value → H) :
    ReturnsInHanded {} Try.checked os 7 .any (Rows.scriptKeepsSpec.pre6 enc Try.prog Try.f7 Rows.scriptKeepsRow.domain false) (Rows.scriptKeepsSpec.post enc Try.prog Try.f7 false true false false) :=
  law_lifted (C := Try.checked) started own (by kernel_rfl) Try.func7
    (ChangeSpec.witness6 (enc := enc) (C := Try.checked) false ⟨#[], #[.slice none 0 0, .slice none 0 0], []⟩ 8 (by kernel_rfl) (by kernel_rfl) (by kernel_rfl) (by kernel_rfl))
    laidOut readable rfl Try.underlying4 rfl says (fun W args ha hs => walk W args ha hs)
theorem over : Rows.scriptKeepsRow.holds Try.pinned (OpenSpec.ofChange Rows.scriptKeepsSpec) :=
  OpenClaim.holds_of_wide 7 Try.f7 rfl rfl rfl rfl rfl rfl rfl ⟨rfl, rfl, rfl, rfl, rfl⟩ rfl rfl rfl rfl rfl (by kernel_rfl) Try.func7 (by kernel_rfl)
    (of_decide_eq_true (by kernel_rfl)) (by unfold Func.isWrapper; first | (rw [if_pos (by decide +kernel)]; kernel_rfl) | (rw [if_neg (by decide +kernel)]; exact ⟨rfl, rfl⟩))
    (fun os started H enc _ => lifted os started H enc)
theorem proved : Rows.ScriptKeepsSaid := over
#print axioms proved
end Go.Proofs.Ytgmibjhbneggeaa.scriptKeeps
