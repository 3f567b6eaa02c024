/- The walks of package code (layer 6): register, number. -/
import Derived.Test.YtilioiebecpknaaChecked
import Derived.Test.YtilioiebecpknaaCodeP
import Derived.Test.YtilioiebecpknaaLaw
import Derived.Test.YtilioiebecpknaaOwn
import Derived.WalkLawsBesides
import Derived.Outline
import Derived.Deep.Light
import Derived.Deep.DeepMust
namespace Go.Proofs.Ytilioiebecpknaa.Code
open Go.RowKit Go.Fb Go.BytesP Go.CodeP
set_option linter.unusedVariables false

theorem ret_int {k : IntKind} {a b : Int} (h : a = b) : Ending.returned (.int k a) = .returned (.int k b) := by rw [h]
theorem register_any (has : Bool) (n : Int) (w : World) : Calls Try.prog 38 #[.bool has, .int .i64 n] w fun e w' => e = .returned (.int .i64 (reg has n)) ∧ w = w' := by
  cases has
  all_goals
    go_enter Try.func38, Try.ntmps38
    go_wp2
    all_goals
      go_ret
      refine ⟨ret_int ?_, rfl⟩
      go_light
      unfold reg
      simp_all
      try omega
/-- An instruction, as a value. -/
def agg (x : Ins) : Value := .agg #[.int .i64 x.op, .int .i64 x.a, .int .i64 x.b, .int .i64 x.c, .int .i64 x.imm]
def numberH (has : Bool) (x : Ins) (n locks : Int) : Int :=
  if has = false ∧ x.imm ≠ 0 then 11
  else if (x.op = 22 ∨ x.op = 23) ∧ (x.imm < 0 ∨ n < x.imm) then 12
  else if (x.op = 29 ∨ x.op = 30) ∧ (x.imm < 0 ∨ locks ≤ x.imm) then 13 else 0
set_option maxHeartbeats 1000000 in
theorem number_any (has : Bool) (x : Ins) (n locks : Int) (w : World) : Calls Try.prog 39 #[agg x, .bool has, .int .i64 n, .int .i64 locks] w fun e w' => e = .returned (.int .i64 (numberH has x n locks)) ∧ New w w' := by
  obtain ⟨op, a, b, c, imm⟩ := x
  unfold agg
  cases has
  all_goals
    go_enter Try.func39, Try.ntmps39
    go_wp2
    all_goals
      go_ret
      refine ⟨ret_int ?_, (Kept.refl _ _).alloc _⟩
      go_light
      unfold numberH
      simp_all
      try omega
end Go.Proofs.Ytilioiebecpknaa.Code
