/- The walks of package alu (layer 4): what each inner function and Do compute. -/
import Derived.Test.YtilioiebecpknaaChecked
import Derived.Test.YtilioiebecpknaaAluPlain
import Derived.WalkKit
import Derived.WalkLawsBesides
import Derived.Outline
import Derived.Lib.Hide
namespace Go.Proofs.Ytilioiebecpknaa.Alu
open Go.RowKit Go.AluP

theorem quot_any (b c : Int) (w : World) : Calls Try.prog 27 #[.int .i64 b, .int .i64 c] w fun e w' => e = .returned (.int .i64 (quo b c)) ∧ w = w' := by
  by_cases h0 : c = 0
  · subst h0
    go_enter Try.func27, Try.ntmps27
    go_wp2
    go_ret
    exact ⟨rfl, rfl⟩
  · by_cases h1 : c = -1
    · subst h1
      go_enter Try.func27, Try.ntmps27
      go_wp2
      go_ret
      exact ⟨by simp [quo, Int.tdiv_neg], rfl⟩
    · have e0 : (c == 0) = false := by simpa using h0
      have e1 : (c == -1) = false := by simpa using h1
      have hq : quo b c = wrap64 (b.tdiv c) := by unfold quo; rw [if_neg h0]
      have Hq := Lib.hid hq; clear hq
      go_enter Try.func27, Try.ntmps27
      go_wp2
      go_ret
      exact ⟨by rw [Hq.out]; rfl, rfl⟩
theorem left_any (b c : Int) (w : World) : Calls Try.prog 28 #[.int .i64 b, .int .i64 c] w fun e w' => e = .returned (.int .i64 (shl b c)) ∧ w = w' := by
  by_cases h0 : c < 0
  · go_enter Try.func28, Try.ntmps28
    go_wp2
    go_ret
    exact ⟨by unfold shl; rw [if_pos h0]; rfl, rfl⟩
  · go_enter Try.func28, Try.ntmps28
    go_wp2
    go_ret
    exact ⟨by unfold shl; rw [if_neg (by omega)]; rfl, rfl⟩
theorem right_any (b c : Int) (w : World) : Calls Try.prog 29 #[.int .i64 b, .int .i64 c] w fun e w' => e = .returned (.int .i64 (shr b c)) ∧ w = w' := by
  by_cases h0 : c < 0
  · go_enter Try.func29, Try.ntmps29
    go_wp2
    go_ret
    exact ⟨by unfold shr; rw [if_pos h0]; rfl, rfl⟩
  · go_enter Try.func29, Try.ntmps29
    go_wp2
    go_ret
    exact ⟨by unfold shr; rw [if_neg (by omega)]; rfl, rfl⟩
theorem one_any (x : Bool) (w : World) : Calls Try.prog 30 #[.bool x] w fun e w' => e = .returned (.int .i64 (one x)) ∧ w = w' := by
  cases x <;> (go_enter Try.func30, Try.ntmps30; go_wp2; go_ret; exact ⟨rfl, rfl⟩)

set_option maxHeartbeats 1000000 in
theorem Do_any (op b c : Int) (w : World) : Calls Try.prog 21 #[.int .i64 op, .int .i64 b, .int .i64 c] w fun e w' => e = .returned (.tuple #[.int .i64 (val op b c), .int .i64 (err op)]) ∧ w = w' := by
  go_enter Try.func21, Try.ntmps21
  go_wp2_with (first | (go_at_call 27; refine (quot_any _ _ _).mono ?_; rintro e w' ⟨rfl, rfl⟩) | (go_at_call 28; refine (left_any _ _ _).mono ?_; rintro e w' ⟨rfl, rfl⟩) | (go_at_call 29; refine (right_any _ _ _).mono ?_; rintro e w' ⟨rfl, rfl⟩) | (go_at_call 30; refine (one_any _ _).mono ?_; rintro e w' ⟨rfl, rfl⟩))
  all_goals go_ret2
  all_goals first
    | (obtain rfl : op = 3 := WalkArith.int_eq (by assumption); exact ⟨rfl, rfl⟩)
    | (obtain rfl : op = 4 := WalkArith.int_eq (by assumption); exact ⟨rfl, rfl⟩)
    | (obtain rfl : op = 5 := WalkArith.int_eq (by assumption); exact ⟨rfl, rfl⟩)
    | (obtain rfl : op = 6 := WalkArith.int_eq (by assumption); exact ⟨rfl, rfl⟩)
    | (obtain rfl : op = 7 := WalkArith.int_eq (by assumption); exact ⟨rfl, rfl⟩)
    | (obtain rfl : op = 8 := WalkArith.int_eq (by assumption); exact ⟨rfl, rfl⟩)
    | (obtain rfl : op = 9 := WalkArith.int_eq (by assumption); exact ⟨rfl, rfl⟩)
    | (obtain rfl : op = 10 := WalkArith.int_eq (by assumption); exact ⟨rfl, rfl⟩)
    | (obtain rfl : op = 11 := WalkArith.int_eq (by assumption); exact ⟨rfl, rfl⟩)
    | (obtain rfl : op = 12 := WalkArith.int_eq (by assumption); exact ⟨rfl, rfl⟩)
    | (obtain rfl : op = 13 := WalkArith.int_eq (by assumption); exact ⟨rfl, rfl⟩)
    | (obtain rfl : op = 14 := WalkArith.int_eq (by assumption); exact ⟨rfl, rfl⟩)
    | (have k3 := WalkArith.int_ne (a := op) (b := 3) (by assumption)
       have k4 := WalkArith.int_ne (a := op) (b := 4) (by assumption)
       have k5 := WalkArith.int_ne (a := op) (b := 5) (by assumption)
       have k6 := WalkArith.int_ne (a := op) (b := 6) (by assumption)
       have k7 := WalkArith.int_ne (a := op) (b := 7) (by assumption)
       have k8 := WalkArith.int_ne (a := op) (b := 8) (by assumption)
       have k9 := WalkArith.int_ne (a := op) (b := 9) (by assumption)
       have k10 := WalkArith.int_ne (a := op) (b := 10) (by assumption)
       have k11 := WalkArith.int_ne (a := op) (b := 11) (by assumption)
       have k12 := WalkArith.int_ne (a := op) (b := 12) (by assumption)
       have k13 := WalkArith.int_ne (a := op) (b := 13) (by assumption)
       have k14 := WalkArith.int_ne (a := op) (b := 14) (by assumption)
       exact ⟨by rw [val_else (by omega), err_else (by omega)]; rfl, rfl⟩)

end Go.Proofs.Ytilioiebecpknaa.Alu
