/- The walks of package flt's Do (layer 5): that it answers. -/
import Derived.Test.YtilioiebecpknaaCpuW
import Derived.Laws.Externs
import Derived.Laws.FloatArith
namespace Go.Proofs.Ytilioiebecpknaa.Cpu
open Go.RowKit Go.Fb Go.BytesP Go.CodeP Go.CpuP _root_.Go.Proofs.Ytilioiebecpknaa.Code
set_option linter.unusedVariables false

theorem run_frombits (n : Int) (w : World) : (callFunc 40 #[.int .u64 n]).run Try.prog w = .ok (.value (.float .f64 n.toNat)) w := by
  rw [run_callFunc_extern Try.func40 (by kernel_rfl) (by kernel_rfl) (by kernel_rfl) (e := Extern.MathFloatBits.float64frombits) (by kernel_rfl)]
  rfl
theorem run_tobits (n : Nat) (w : World) : (callFunc 41 #[.float .f64 n]).run Try.prog w = .ok (.value (.int .u64 n)) w := by
  rw [run_callFunc_extern Try.func41 (by kernel_rfl) (by kernel_rfl) (by kernel_rfl) (e := Extern.MathFloatBits.float64bits) (by kernel_rfl)]
  rfl
theorem farith_some (op : BinOp) (ho : op = .add ∨ op = .sub ∨ op = .mul ∨ op = .quo) (x y : Nat) (w : World) :
    ∃ r w1, (binOp op 65 (.float .f64 x) (.float .f64 y)).run Try.prog w = .ok (.float .f64 r) w1 ∧ New w w1 := by
  cases h : floatBits op .f64 x y with
  | some r => exact ⟨r, w, run_float_arith w op _ .f64 x y r h, Kept.refl _ _⟩
  | none =>
    unfold floatBits at h
    obtain rfl | rfl | rfl | rfl := ho
    all_goals
      simp only at h
      refine ⟨Question.cut (.nanBits .f64 x y) (w.tape w.drawn (.nanBits .f64 x y)), w.drew, ?_, (Kept.refl _ _).drew⟩
      simp [binOp, Op.floatArith, h, Question.forced]
theorem fint_some (x : Nat) (w : World) : ∃ r w1, (convert 65 2 (.float .f64 x)).run Try.prog w = .ok (.int .i64 r) w1 ∧ New w w1 := by
  cases h : floatToIntVal .f64 x .i64 with
  | some r => exact ⟨r, w, run_convert_float_int w _ _ .f64 .i64 x r (by kernel_rfl) Try.underlying2 h, Kept.refl _ _⟩
  | none =>
    unfold floatToIntVal at h
    refine ⟨IntKind.i64.wrap (Question.cut (.floatToInt .f64 x .i64) (w.tape w.drawn (.floatToInt .f64 x .i64))), w.drew, ?_, (Kept.refl _ _).drew⟩
    obtain ⟨u, hs'⟩ := Option.isSome_iff_exists.1 (show (Try.prog.underlying 65).isSome = true by kernel_rfl)
    split at h
    · rename_i m he
      split at h
      · cases h
      · rename_i hb
        have hb' : ¬ (IntKind.i64.min ≤ m ∧ m ≤ IntKind.i64.max) := hb
        cases u <;> simp [convert, run_underlying hs', run_underlying Try.underlying2, Conv.floatToInt, he, Question.forced]
        all_goals exact fun a b => absurd ⟨a, b⟩ hb'
    · rename_i he
      cases u <;> simp [convert, run_underlying hs', run_underlying Try.underlying2, Conv.floatToInt, he, Question.forced]
theorem float_any (b : Int) (w : World) : Calls Try.prog 31 #[.int .i64 b] w fun e w' => e = .returned (.float .f64 (IntKind.u64.wrap b).toNat) ∧ w = w' := by
  have h := fun n w => run_frombits n w
  go_enter Try.func31, Try.ntmps31
  go_wp2
  go_ret
  exact ⟨rfl, rfl⟩
theorem bits_some (x : Nat) (w : World) : Calls Try.prog 32 #[.float .f64 x] w fun e w' => (∃ v : Int, e = .returned (.int .i64 v)) ∧ w = w' := by
  have h := fun n w => run_tobits n w
  go_enter Try.func32, Try.ntmps32
  go_wp2
  all_goals (go_ret; exact ⟨⟨_, rfl⟩, rfl⟩)
set_option maxRecDepth 100000 in
theorem whole_some (x : Nat) (w : World) : Calls Try.prog 33 #[.float .f64 x] w fun e w' => (∃ v : Int, e = .returned (.int .i64 v)) ∧ New w w' := by
  obtain ⟨r, w1, h, k⟩ := fint_some x w
  have K := Lib.hid k
  clear k
  go_enter Try.func33, Try.ntmps33
  go_wp2
  all_goals (go_ret; exact ⟨⟨_, rfl⟩, by first | exact Kept.refl _ _ | exact K.out⟩)
set_option maxHeartbeats 1000000 in
theorem flt_some (op b c : Int) (w : World) : Calls Try.prog 22 #[.int .i64 op, .int .i64 b, .int .i64 c] w fun e w' => (∃ v r : Int, e = .returned (.tuple #[.int .i64 v, .int .i64 r])) ∧ New w w' := by
  obtain ⟨r1, w1, h1, k1⟩ := farith_some .add (by simp) (IntKind.u64.wrap b).toNat (IntKind.u64.wrap c).toNat w
  obtain ⟨r2, w2, h2, k2⟩ := farith_some .sub (by simp) (IntKind.u64.wrap b).toNat (IntKind.u64.wrap c).toNat w
  obtain ⟨r3, w3, h3, k3⟩ := farith_some .mul (by simp) (IntKind.u64.wrap b).toNat (IntKind.u64.wrap c).toNat w
  obtain ⟨r4, w4, h4, k4⟩ := farith_some .quo (by simp) (IntKind.u64.wrap b).toNat (IntKind.u64.wrap c).toNat w
  have K1_ := Lib.hid k1
  have K2_ := Lib.hid k2
  have K3_ := Lib.hid k3
  have K4_ := Lib.hid k4
  clear k1 k2 k3 k4
  go_enter Try.func22, Try.ntmps22
  go_wp2_with (first | (go_at_call 31; refine (float_any _ _).mono ?_; rintro e w' ⟨rfl, rfl⟩) | (go_at_call 32; refine (bits_some _ _).mono ?_; rintro e w' ⟨⟨v, rfl⟩, rfl⟩) | (go_at_call 33; refine (whole_some _ _).mono ?_; rintro e w5 ⟨⟨v, rfl⟩, hw5⟩))
  all_goals (go_ret2; exact ⟨⟨_, _, rfl⟩, by first | exact Kept.refl _ _ | exact K1_.out | exact K2_.out | exact K3_.out | exact K4_.out | assumption⟩)
end Go.Proofs.Ytilioiebecpknaa.Cpu
