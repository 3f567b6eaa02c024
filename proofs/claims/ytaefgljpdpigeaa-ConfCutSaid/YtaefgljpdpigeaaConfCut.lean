/- A config's bytes that are cut are too short, at their end; with something behind them there is a rest; another program leaves the skeleton -/
import Derived.Test.YtaefgljpdpigeaaRows
import Derived.Test.YtaefgljpdpigeaaLaw
import Derived.Test.YtaefgljpdpigeaaConfCu
namespace Go.Proofs.Ytaefgljpdpigeaa.confCut
open Go.RowKit Go.Fb Go.ChangeShapes Go.WideShapes Go.ChangeAt
set_option linter.unusedVariables false
theorem own : ownKnob Try.prog.godebug = none := by kernel_rfl
theorem laidOut : laidOutB Try.prog = true := by kernel_rfl
theorem readable : ∀ t ∈ Try.f3.params.toList, Try.prog.readableRec t = true ∧ t < Try.prog.types.size := by
  intro t ht
  rw [Try.params3] at ht
  simp only [List.mem_cons, List.not_mem_nil, or_false] at ht
  rcases ht with rfl | rfl | rfl | rfl <;> exact ⟨by kernel_rfl, of_decide_eq_true (by kernel_rfl)⟩
theorem says : SaysTrue Rows.confCutSpec Try.f3.params.size := by
  intro H ds h
  rw [Try.params3] at h
  match ds, h with
  | [d1, d2, d3, d4], _ => exact ⟨rfl, rfl, rfl⟩
set_option maxRecDepth 100000 in
theorem walk {H : Type} {enc : TypeId × Value → H} (W : World) (args : Array Value) (ha : ∀ (j : Nat) t v, Try.f3.params[j]? = some t → args[j]? = some v → (∃ base, Value.okWide Try.prog W .any base t v) ∧ ∃ d p, DataW.Trod enc Try.prog W 0 (fun _ => true) true t v d p) (hs : args.size = Try.f3.params.size) :
    Calls Try.prog 3 args W fun e W' => e = .returned (.bool true) ∧ Below W.heap.size W W' := by
  rw [Try.params3] at ha hs
  obtain ⟨l⟩ := args
  match l, hs with
  | [v0, v1, v2, v3], _ =>
    obtain ⟨⟨base0, hv0⟩, e0, p0, ht0⟩ := ha 0 26 v0 rfl rfl
    obtain ⟨⟨base1, hv1⟩, e1, p1, ht1⟩ := ha 1 3 v1 rfl rfl
    obtain ⟨⟨base2, hv2⟩, e2, p2, ht2⟩ := ha 2 27 v2 rfl rfl
    obtain ⟨⟨base3, hv3⟩, e3, p3, ht3⟩ := ha 3 28 v3 rfl rfl
    clear ha
    obtain ⟨cs0, x0, rfl, h0⟩ := arg_struct (R := Conf.repConf) Try.underlying26 (Conf.opens_conf) ht0 hv0
    obtain ⟨x1, rfl, w1⟩ := arg_int Try.underlying3 ht1 hv1
    obtain ⟨A2, n2, c2, l2, rfl, h2⟩ := arg_slice (R := Rep.byte) Try.underlying27 (by kernel_rfl) (by decide) (opens_byte Try.underlying5) ht2 hv2
    obtain ⟨A3, n3, c3, l3, rfl, h3⟩ := arg_slice (R := Code.repIns) Try.underlying28 (by kernel_rfl) (by decide) (Code.opens_ins) ht3 hv3
    exact (Conf.cut_walk h0 h2 h3).mono fun e W' h => ⟨h.1, h.2.below⟩
set_option maxRecDepth 100000 in
theorem lifted (os : Os) (started : os.Started) (H : Type) (enc : TypeId × Value → H) :
    ReturnsInHanded {} Try.checked os 3 .any (Rows.confCutSpec.pre6 enc Try.prog Try.f3 Rows.confCutRow.domain false) (Rows.confCutSpec.post enc Try.prog Try.f3 false true false false) :=
  law_lifted (C := Try.checked) started own (by kernel_rfl) Try.func3
    (ChangeSpec.witness6 (enc := enc) (C := Try.checked) false ⟨#[], #[.agg #[.slice none 0 0, .slice none 0 0, .int .i64 0, .int .i64 0, .int .i64 0, .int .i64 0, .slice none 0 0], .int .i64 0, .slice none 0 0, .slice none 0 0], []⟩ 8 (by kernel_rfl) (by kernel_rfl) (by kernel_rfl) (by kernel_rfl))
    laidOut readable rfl Try.underlying4 rfl says (fun W args ha hs => walk W args ha hs)
theorem over : Rows.confCutRow.holds Try.pinned (OpenSpec.ofChange Rows.confCutSpec) :=
  OpenClaim.holds_of_wide 3 Try.f3 rfl rfl rfl rfl rfl rfl rfl ⟨rfl, rfl, rfl, rfl, rfl⟩ rfl rfl rfl rfl rfl (by kernel_rfl) Try.func3 (by kernel_rfl)
    (of_decide_eq_true (by kernel_rfl)) (by unfold Func.isWrapper; first | (rw [if_pos (by decide +kernel)]; kernel_rfl) | (rw [if_neg (by decide +kernel)]; exact ⟨rfl, rfl⟩))
    (fun os started H enc _ => lifted os started H enc)
theorem proved : Rows.ConfCutSaid := over
#print axioms proved
end Go.Proofs.Ytaefgljpdpigeaa.confCut
