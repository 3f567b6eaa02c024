/- ViewKeeps: what is handed in stays; what comes out is new memory, each list of it.
No condition. -/
import Derived.Test.YtgdmajockejpgaaRows
import Derived.Test.YtgdmajockejpgaaLaw
import Derived.Test.YtgdmajockejpgaaSized
import Derived.Test.YtgdmajockejpgaaViewKc
namespace Go.Proofs.Ytgdmajockejpgaa.viewKeeps
open Go.RowKit Go.Fb Go.ChangeShapes Go.WideShapes Go.ChangeAt
set_option linter.unusedVariables false
theorem own : ownKnob Try.prog.godebug = none := by kernel_rfl
theorem laidOut : laidOutB Try.prog = true := by kernel_rfl
theorem readable : ∀ t ∈ Try.f5.params.toList, Try.prog.readableRec t = true ∧ t < Try.prog.types.size := by
  intro t ht
  rw [Try.params5] at ht
  simp only [List.mem_cons, List.not_mem_nil, or_false] at ht
  rcases ht with rfl | rfl | rfl <;> exact ⟨by kernel_rfl, of_decide_eq_true (by kernel_rfl)⟩
theorem says : SaysTrue Rows.viewKeepsSpec Try.f5.params.size := by
  intro H ds h
  rw [Try.params5] at h
  match ds, h with
  | [d1, d2, d3], _ => exact ⟨rfl, rfl, rfl⟩
set_option maxRecDepth 100000 in
theorem walk {H : Type} {enc : TypeId × Value → H} (W : World) (args : Array Value) (ha : ∀ (j : Nat) t v, Try.f5.params[j]? = some t → args[j]? = some v → (∃ base, Value.okWide Try.prog W .any base t v) ∧ ∃ d p, DataW.Trod enc Try.prog W 0 (fun _ => true) true t v d p ∧ ∀ m ∈ DataW.weights Try.prog t d, m ≤ reachBytes) (hs : args.size = Try.f5.params.size) :
    Calls Try.prog 5 args W fun e W' => e = .returned (.bool true) ∧ Below W.heap.size W W' := by
  rw [Try.params5] at ha hs
  obtain ⟨l⟩ := args
  match l, hs with
  | [v0, v1, v2], _ =>
    obtain ⟨⟨base0, hv0⟩, e0, p0, ht0, g0⟩ := ha 0 26 v0 rfl rfl
    obtain ⟨⟨base1, hv1⟩, e1, p1, ht1, g1⟩ := ha 1 30 v1 rfl rfl
    obtain ⟨⟨base2, hv2⟩, e2, p2, ht2, g2⟩ := ha 2 31 v2 rfl rfl
    clear ha
    obtain ⟨cs0, x0, rfl, h0⟩ := arg_structZ (R := View.repConf) Try.underlying26 (View.opens_conf.z) ht0 hv0 g0
    obtain ⟨cs1, x1, rfl, h1⟩ := arg_structZ (R := (View.repState.few View.SmallS)) Try.underlying30 (View.opens_state) ht1 hv1 g1
    obtain ⟨x2, rfl, w2⟩ := arg_int Try.underlying31 ht2 hv2
    exact (View.keeps_law h0 h1 x2 w2).mono fun e W' h => ⟨h.1, h.2.below⟩
set_option maxRecDepth 100000 in
theorem lifted (os : Os) (started : os.Started) (H : Type) (enc : TypeId × Value → H) :
    ReturnsInHanded {} Try.checked os 5 .any (Rows.viewKeepsSpec.pre6 enc Try.prog Try.f5 Rows.viewKeepsRow.domain false) (Rows.viewKeepsSpec.post enc Try.prog Try.f5 false true false false) :=
  law_sized (C := Try.checked) started own (by kernel_rfl) Try.func5
    (ChangeSpec.witness6 (enc := enc) (C := Try.checked) false ⟨#[], #[.agg #[.slice none 0 0, .slice none 0 0, .int .i64 0, .int .i64 0, .int .i64 0, .int .i64 0, .slice none 0 0], .agg #[.int .i64 0, .slice none 0 0, .slice none 0 0], .int .u64 0], []⟩ 8 (by kernel_rfl) (by kernel_rfl) (by kernel_rfl) (by kernel_rfl))
    laidOut readable rfl Try.underlying4 rfl says (fun W args ha hs => walk W args ha hs)
theorem over : Rows.viewKeepsRow.holds Try.pinned (OpenSpec.ofChange Rows.viewKeepsSpec) :=
  OpenClaim.holds_of_wide 5 Try.f5 rfl rfl rfl rfl rfl rfl rfl ⟨rfl, rfl, rfl, rfl, rfl⟩ rfl rfl rfl rfl rfl (by kernel_rfl) Try.func5 (by kernel_rfl)
    (of_decide_eq_true (by kernel_rfl)) (by unfold Func.isWrapper; first | (rw [if_pos (by decide +kernel)]; kernel_rfl) | (rw [if_neg (by decide +kernel)]; exact ⟨rfl, rfl⟩))
    (fun os started H enc _ => lifted os started H enc)
theorem proved : Rows.ViewKeepsSaid := over
#print axioms proved
end Go.Proofs.Ytgdmajockejpgaa.viewKeeps
