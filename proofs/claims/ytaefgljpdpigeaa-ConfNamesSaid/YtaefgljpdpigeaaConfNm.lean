/- The walk of the law ConfNames (layer 14). -/
import Derived.Test.YtaefgljpdpigeaaConfAw
namespace Go.Proofs.Ytaefgljpdpigeaa.Conf
open Go.RowKit Go.Fb
set_option linter.unusedVariables false
theorem names_walk (w : World) : Calls Try.prog 5 #[] w fun e w' => e = .returned (.bool true) ∧ New w w' := by
  have HA := Lib.hid (fun W => awake_any W)
  go_enter Try.func5, Try.ntmps5
  go_wp2_with (go_at_call 9; refine (HA.out _).mono ?_; rintro e w1 ⟨rfl, hn1⟩)
  go_ret
  exact ⟨rfl, hn1⟩
end Go.Proofs.Ytaefgljpdpigeaa.Conf
