/- The laws of chapter 16, walked. -/
import Derived.Test.YtgmibjhbneggeaaScriptA
namespace Go.Proofs.Ytgmibjhbneggeaa.Script
open Go.RowKit Go.Fb Go.BytesP Go.ScriptP
set_option linter.unusedVariables false

theorem names_walk (w : World) : Calls Try.prog 3 #[] w fun e w' => e = .returned (.bool true) ∧ New w w' := by
  go_enter Try.func3, Try.ntmps3
  go_wp2_with (go_at_call 8; refine (awake_any _).mono ?_; rintro e w1 ⟨rfl, hw⟩)
  go_ret
  exact ⟨rfl, hw⟩
end Go.Proofs.Ytgmibjhbneggeaa.Script
