/- Any bytes: the program's Decode answers as the document's does: the config, or what is wrong first, and where -/
import Derived.Test.YtaefgljpdpigeaaRows
import Derived.Test.YtaefgljpdpigeaaLaw
import Derived.Test.YtaefgljpdpigeaaConfRj
namespace Go.Proofs.Ytaefgljpdpigeaa.confReads
open Go.RowKit Go.Fb Go.ChangeShapes Go.WideShapes Go.ChangeAt
set_option linter.unusedVariables false
theorem own : ownKnob Try.prog.godebug = none := by kernel_rfl
theorem laidOut : laidOutB Try.prog = true := by kernel_rfl
theorem readable : ∀ t ∈ Try.f7.params.toList, Try.prog.readableRec t = true ∧ t < Try.prog.types.size := by
  intro t ht
  rw [Try.params7] at ht
  simp only [List.mem_cons, List.not_mem_nil, or_false] at ht
  subst ht
  exact ⟨by kernel_rfl, of_decide_eq_true (by kernel_rfl)⟩
theorem says : SaysTrue Rows.confReadsSpec Try.f7.params.size := by
  intro H ds h
  rw [Try.params7] at h
  match ds, h with
  | [d1], _ => exact ⟨rfl, rfl, rfl⟩
set_option maxRecDepth 100000 in
theorem walk {H : Type} {enc : TypeId × Value → H} (W : World) (args : Array Value) (ha : ∀ (j : Nat) t v, Try.f7.params[j]? = some t → args[j]? = some v → (∃ base, Value.okWide Try.prog W .any base t v) ∧ ∃ d p, DataW.Trod enc Try.prog W 0 (fun _ => true) true t v d p) (hs : args.size = Try.f7.params.size) :
    Calls Try.prog 7 args W fun e W' => e = .returned (.bool true) ∧ Below W.heap.size W W' := by
  rw [Try.params7] at ha hs
  obtain ⟨l⟩ := args
  match l, hs with
  | [v0], _ =>
    obtain ⟨⟨base0, hv0⟩, e0, p0, ht0⟩ := ha 0 27 v0 rfl rfl
    clear ha
    obtain ⟨A0, n0, c0, l0, rfl, h0⟩ := arg_slice (R := Rep.byte) Try.underlying27 (by kernel_rfl) (by decide) (opens_byte Try.underlying5) ht0 hv0
    exact (Conf.reads_walk h0).mono fun e W' h => ⟨h.1, h.2.below⟩
set_option maxRecDepth 100000 in
theorem lifted (os : Os) (started : os.Started) (H : Type) (enc : TypeId × Value → H) :
    ReturnsInHanded {} Try.checked os 7 .any (Rows.confReadsSpec.pre6 enc Try.prog Try.f7 Rows.confReadsRow.domain false) (Rows.confReadsSpec.post enc Try.prog Try.f7 false true false false) :=
  law_lifted (C := Try.checked) started own (by kernel_rfl) Try.func7
    (ChangeSpec.witness6 (enc := enc) (C := Try.checked) false ⟨#[], #[.slice none 0 0], []⟩ 8 (by kernel_rfl) (by kernel_rfl) (by kernel_rfl) (by kernel_rfl))
    laidOut readable rfl Try.underlying4 rfl says (fun W args ha hs => walk W args ha hs)
theorem over : Rows.confReadsRow.holds Try.pinned (OpenSpec.ofChange Rows.confReadsSpec) :=
  OpenClaim.holds_of_wide 7 Try.f7 rfl rfl rfl rfl rfl rfl rfl ⟨rfl, rfl, rfl, rfl, rfl⟩ rfl rfl rfl rfl rfl (by kernel_rfl) Try.func7 (by kernel_rfl)
    (of_decide_eq_true (by kernel_rfl)) (by unfold Func.isWrapper; first | (rw [if_pos (by decide +kernel)]; kernel_rfl) | (rw [if_neg (by decide +kernel)]; exact ⟨rfl, rfl⟩))
    (fun os started H enc _ => lifted os started H enc)
theorem proved : Rows.ConfReadsSaid := over
#print axioms proved
end Go.Proofs.Ytaefgljpdpigeaa.confReads
