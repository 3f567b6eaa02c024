/- The walk of chapter 16's law ScriptMays. -/
import Derived.Test.YtgmibjhbneggeaaScriptU
namespace Go.Proofs.Ytgmibjhbneggeaa.Script
open Go.RowKit Go.Fb Go.BytesP Go.ScriptP
set_option linter.unusedVariables false

set_option maxRecDepth 100000 in
set_option maxHeartbeats 1000000 in
theorem mays_walk (A : Option Addr) (n c : Nat) (l : List Step) (w : World) (hl : SliceOf repStep w w.heap.size A n c l) :
    Calls Try.prog 4 #[.slice A n c] w fun e w' => e = .returned (.bool true) ∧ New w w' := by
  have HL := Lib.hid hl
  clear hl
  generalize hE : may l = m
  have HE := Lib.hid hE
  clear hE
  go_enter Try.func4, Try.ntmps4
  go_wp2_with (go_at_call 8; refine (awake_any _).mono ?_; rintro e w1 ⟨rfl, hw1⟩)
  have HW1 := Lib.hid hw1
  clear hw1
  refine (may_walk A n c l w1 (news HL.out HW1.out)).mono ?_
  rintro e w2 ⟨rfl, hw2⟩
  rw [HE.out]
  have HW2 := Lib.hid (HW1.out.trans hw2)
  clear hw2
  go_wp2_with fail
  refine (ref_may A n c l w2 (news HL.out HW2.out)).mono ?_
  rintro e w3 ⟨rfl, hw3⟩
  rw [HE.out]
  have HW3 := Lib.hid (HW2.out.trans hw3)
  clear hw3
  go_wp2_with fail
  by_cases hm : may l = (0, 0)
  · refine (encode_ok A n c l w3 (news HL.out HW3.out) hm).mono ?_
    rintro e w4 ⟨g, cap, rfl, ho, hw4⟩
    have HO4 := Lib.hid ho.read
    have HM := Lib.hid hm
    have HW4 := Lib.hid (HW3.out.trans hw4)
    clear ho hm hw4
    go_wp2_with fail
    refine (ref_encode_ok A n c l w4 (news HL.out HW4.out) HM.out).mono ?_
    rintro e w5 ⟨g5, cap5, rfl, ho5, hw5⟩
    have s1 := str_of (P := Try.prog) (news HO4.out hw5) 27 9 5 rfl rfl rfl
    have s2 := str_of (P := Try.prog) ho5.read 27 9 5 rfl rfl rfl
    have HW5 := Lib.hid (HW4.out.trans hw5)
    clear ho5 hw5
    go_wp2_with fail
    go_ret
    exact ⟨rfl, HW5.out⟩
  · refine (encode_err A n c l w3 (news HL.out HW3.out) hm).mono ?_
    rintro e w4 ⟨rfl, hw4⟩
    rw [HE.out]
    have HM := Lib.hid hm
    have HW4 := Lib.hid (HW3.out.trans hw4)
    clear hm hw4
    go_wp2_with fail
    refine (ref_encode_err A n c l w4 (news HL.out HW4.out) HM.out).mono ?_
    rintro e w5 ⟨rfl, hw5⟩
    rw [HE.out]
    have s1 := str_of (P := Try.prog) (SliceOf.nil Rep.byte w5 0) 27 9 5 rfl rfl rfl
    have HW5 := Lib.hid (HW4.out.trans hw5)
    clear hw5
    go_wp2_with fail
    go_ret
    exact ⟨rfl, HW5.out⟩
end Go.Proofs.Ytgmibjhbneggeaa.Script
