/- The walks of package flt's Do (layer 5), exactly. -/
import Derived.Test.YtilioiebecpknaaCpuF
import Derived.Test.YtilioiebecpknaaFA
namespace Go.Proofs.Ytilioiebecpknaa.Cpu
open Go.RowKit Go.Fb Go.BytesP Go.CodeP Go.CpuP _root_.Go.Proofs.Ytilioiebecpknaa.Code Go.FltP
set_option linter.unusedVariables false
theorem fmt64 : FloatKind.f64.format = Ieee.double := rfl
/-- The bits of a float, all NaNs being one. -/
def oneNaN (x : Nat) : Nat := if infR < mag x then nanR else x
theorem mag_lt (a : Nat) : mag a < 2 ^ 63 := Nat.mod_lt _ (by decide)
theorem order_self {x : Nat} : (FloatKind.f64.format.order x x != some .eq) = decide (infR < mag x) := by
  rw [fmt64]
  by_cases h : infR < mag x
  · rw [order_nan (.inl h), decide_eq_true h]; rfl
  · rw [order_eq (by omega) (by omega), decide_eq_false h, compare_int, if_neg (by omega), if_pos rfl]; rfl
theorem wr64 (x : Int) : wrap64 x = IntKind.i64.wrap x := by rw [IntKind.wrap_i64]; unfold wrap64; omega
theorem nan_lit : IntKind.i64.wrap (nanR : Nat) = 9221120237041090560 := by decide
theorem bits_any (x : Nat) (w : World) : Calls Try.prog 32 #[.float .f64 x] w fun e w' => e = .returned (.int .i64 (IntKind.i64.wrap (oneNaN x : Nat))) ∧ w' = w := by
  have h := fun n w => run_tobits n w
  have ho := order_self (x := x)
  unfold oneNaN
  by_cases hn : infR < mag x
  · rw [decide_eq_true hn] at ho
    rw [if_pos hn, nan_lit]
    go_enter Try.func32, Try.ntmps32
    go_wp2_with fail
    go_ret
    exact ⟨rfl, rfl⟩
  · rw [decide_eq_false hn] at ho
    rw [if_neg hn]
    go_enter Try.func32, Try.ntmps32
    go_wp2_with fail
    go_ret
    exact ⟨congrArg (fun z => Ending.returned (.int .i64 z)) (wr64 _), rfl⟩
theorem cut_nan (x y t : Nat) : infR < mag (Question.cut (.nanBits .f64 x y) t) := by
  show infR < ((t % 2) * 2 ^ 63 + 0x7ff0000000000000 + 1 + (t / 2) % (2 ^ 52 - 1)) % 2 ^ 63
  have hI : infR = 0x7ff0000000000000 := by decide
  have h1 : t / 2 % (2 ^ 52 - 1) < 2 ^ 52 - 1 := Nat.mod_lt _ (by decide)
  rw [hI]
  generalize t / 2 % (2 ^ 52 - 1) = k at *
  rcases (by omega : t % 2 = 0 ∨ t % 2 = 1) with c | c
  · rw [c]; omega
  · rw [c]; omega
/-- A result of sums and such: no NaN but one. -/
def Fine (v : Nat) : Prop := v < 2 ^ 64 ∧ oneNaN v = v
theorem fine_nan : Fine nanR := ⟨by decide, by decide⟩
theorem fine_of {v : Nat} (h : v < 2 ^ 64) (hm : mag v ≤ infR) : Fine v := ⟨h, by unfold oneNaN; rw [if_neg (by omega)]⟩
theorem fine_sgn (s : Bool) {r : Nat} (h : r ≤ infR) : Fine (sgn s + r) := by
  obtain ⟨h1, h2⟩ := sgn_rnd_lt s h
  exact fine_of h1 (by rw [h2]; exact h)
theorem fine_add {a b : Nat} (ha : a < 2 ^ 64) (hb : b < 2 ^ 64) : Fine (addP a b) := by
  unfold addP
  by_cases h1 : infR < mag a ∨ infR < mag b ∨ (mag a = infR ∧ mag b = infR ∧ a ≠ b)
  · rw [if_pos h1]; exact fine_nan
  rw [if_neg h1]
  by_cases h2 : mag a = infR
  · rw [if_pos h2]; exact fine_of ha (by omega)
  rw [if_neg h2]
  by_cases h3 : mag b = infR
  · rw [if_pos h3]; exact fine_of hb (by omega)
  rw [if_neg h3]
  by_cases h4 : mag a = 0 ∧ mag b = 0
  · rw [if_pos h4]
    split
    · exact fine_of (by decide) (by decide)
    · exact fine_of (by decide) (by decide)
  rw [if_neg h4]
  unfold addN
  split
  · exact fine_sgn _ (rnd_le _ _ _)
  · split
    · exact fine_of (by decide) (by decide)
    · split
      · exact fine_sgn _ (rnd_le _ _ _)
      · exact fine_sgn _ (rnd_le _ _ _)
theorem fine_sub {a b : Nat} (ha : a < 2 ^ 64) (hb : b < 2 ^ 64) : Fine (subP a b) := by
  unfold subP
  split
  · exact fine_nan
  · exact fine_add ha (flip_parts hb).2.2
theorem fine_mul {a b : Nat} : Fine (mulP a b) := by
  unfold mulP
  split
  · exact fine_nan
  · split
    · exact fine_sgn _ (Nat.le_refl _)
    · exact fine_sgn _ (rnd_le _ _ _)
theorem fine_div {a b : Nat} : Fine (divP a b) := by
  unfold divP
  split
  · exact fine_nan
  · split
    · exact fine_sgn _ (Nat.le_refl _)
    · split
      · have := fine_sgn (neg a ^^ neg b) (Nat.zero_le infR)
        rwa [Nat.add_zero] at this
      · exact fine_sgn _ (rnd_le _ _ _)
/-- An operation on floats: what it gives has the bits that it is to have. -/
theorem farith_any (op : BinOp) (ho : op = .add ∨ op = .sub ∨ op = .mul ∨ op = .quo) (x y v : Nat) (hv : bitsOf (floatBits op .f64 x y) = v) (hf : Fine v) (w : World) :
    ∃ r w1, (binOp op 65 (.float .f64 x) (.float .f64 y)).run Try.prog w = .ok (.float .f64 r) w1 ∧ New w w1 ∧ oneNaN r = v := by
  cases h : floatBits op .f64 x y with
  | some r =>
    rw [h] at hv
    have hr : r = v := hv
    subst hr
    exact ⟨r, w, run_float_arith w op _ .f64 x y r h, Kept.refl _ _, hf.2⟩
  | none =>
    rw [h] at hv
    have hr : nanR = v := hv
    subst hr
    unfold floatBits at h
    refine ⟨Question.cut (.nanBits .f64 x y) (w.tape w.drawn (.nanBits .f64 x y)), w.drew, ?_, (Kept.refl _ _).drew, by unfold oneNaN; rw [if_pos (cut_nan _ _ _)]⟩
    obtain rfl | rfl | rfl | rfl := ho
    all_goals
      simp only at h
      simp [binOp, Op.floatArith, h, Question.forced]
theorem edge_lit : mag 4890909195324358656 = edgeR ∧ neg 4890909195324358656 = false ∧ mag 14114281232179134464 = edgeR ∧ neg 14114281232179134464 = true := by decide
theorem edge_lt : edgeR < infR := by decide
theorem order_edge {x : Nat} (h : mag x ≤ infR) : (FloatKind.f64.format.order x 4890909195324358656 == some .gt || FloatKind.f64.format.order x 4890909195324358656 == some .eq) = decide ((edgeR : Int) ≤ rung x) := by
  obtain ⟨e1, e2, -, -⟩ := edge_lit
  have hr : rung 4890909195324358656 = (edgeR : Int) := by unfold rung; rw [e1, e2]; rfl
  rw [fmt64, order_eq h (by rw [e1]; exact Nat.le_of_lt edge_lt), hr, compare_int]
  by_cases c1 : rung x < (edgeR : Int)
  · rw [if_pos c1, decide_eq_false (by omega)]; rfl
  · rw [if_neg c1, decide_eq_true (by omega)]
    by_cases c2 : rung x = (edgeR : Int)
    · rw [if_pos c2]; rfl
    · rw [if_neg c2]; rfl
theorem order_minus {x : Nat} (h : mag x ≤ infR) : (FloatKind.f64.format.order x 14114281232179134464 == some .lt) = decide (rung x < -(edgeR : Int)) := by
  obtain ⟨-, -, e1, e2⟩ := edge_lit
  have hr : rung 14114281232179134464 = -(edgeR : Int) := by unfold rung; rw [e1, e2]; rfl
  rw [fmt64, order_eq h (by rw [e1]; exact Nat.le_of_lt edge_lt), hr, compare_int]
  by_cases c1 : rung x < -(edgeR : Int)
  · rw [if_pos c1, decide_eq_true c1]; rfl
  · rw [if_neg c1, decide_eq_false c1]
    by_cases c2 : rung x = -(edgeR : Int)
    · rw [if_pos c2]; rfl
    · rw [if_neg c2]; rfl
theorem whole_edge : wholeM edgeR = 9223372036854775808 := by decide
theorem whole_val {x : Nat} (h1 : rung x < (edgeR : Int)) (h2 : -(edgeR : Int) ≤ rung x) : floatToIntVal .f64 x .i64 = some (wholeP x) ∧ mag x < infR := by
  have hm : mag x ≤ edgeR := by unfold rung at h1 h2; cases hn : neg x <;> rw [hn] at h1 h2 <;> simp only [Bool.false_eq_true, if_false, if_true] at h1 h2 <;> omega
  have hf : mag x < infR := Nat.lt_of_le_of_lt hm edge_lt
  refine ⟨?_, hf⟩
  have hti : (FloatKind.f64.decode x).toInt .zero = some (if neg x then -(wholeM (mag x) : Int) else wholeM (mag x)) := toInt_eq hf
  unfold floatToIntVal
  rw [hti]
  have hv : wholeP x = (if neg x then -(wholeM (mag x) : Int) else wholeM (mag x)) ∧ -9223372036854775808 ≤ wholeP x ∧ wholeP x ≤ 9223372036854775807 := by
    unfold wholeP
    rw [if_neg (by omega)]
    by_cases c : edgeR ≤ mag x
    · have hme : mag x = edgeR := by omega
      rw [if_pos c, hme, whole_edge]
      cases hn : neg x
      · unfold rung at h1
        rw [hn] at h1
        simp only [Bool.false_eq_true, if_false] at h1
        omega
      · simp
    · rw [if_neg c]
      have := wholeM_lt (r := mag x) (by omega)
      refine ⟨rfl, ?_, ?_⟩
      · split <;> omega
      · split <;> omega
  rw [← hv.1]
  have hb : IntKind.i64.min ≤ wholeP x ∧ wholeP x ≤ IntKind.i64.max := ⟨hv.2.1, hv.2.2⟩
  exact if_pos hb
set_option maxRecDepth 100000 in
theorem whole_any (x : Nat) (w : World) : Calls Try.prog 33 #[.float .f64 x] w fun e w' => e = .returned (.int .i64 (wholeP x)) ∧ w' = w := by
  have ho := order_self (x := x)
  by_cases hn : infR < mag x
  · rw [decide_eq_true hn] at ho
    have hv : wholeP x = 0 := by unfold wholeP; rw [if_pos hn]
    rw [hv]
    have HN := Lib.hid hn
    have HV := Lib.hid hv
    clear hn hv
    go_enter Try.func33, Try.ntmps33
    go_wp2_with fail
    go_ret
    exact ⟨rfl, rfl⟩
  rw [decide_eq_false hn] at ho
  have hle : mag x ≤ infR := by omega
  have h1 := order_edge hle
  have h2 := order_minus hle
  by_cases c1 : (edgeR : Int) ≤ rung x
  · rw [decide_eq_true c1] at h1
    have hv : wholeP x = 9223372036854775807 := by
      unfold rung at c1
      unfold wholeP
      rw [if_neg hn]
      cases hs : neg x <;> rw [hs] at c1 <;> simp only [Bool.false_eq_true, if_false, if_true] at c1 ⊢
      · rw [if_pos (by omega)]
      · have : edgeR ≠ 0 := by decide
        omega
    rw [hv]
    have HN := Lib.hid hn
    have HV := Lib.hid hv
    have C1 := Lib.hid c1
    have HLE := Lib.hid hle
    have H2 := Lib.hid h2
    clear hn hv c1 hle h2
    go_enter Try.func33, Try.ntmps33
    go_wp2_with fail
    go_ret
    exact ⟨rfl, rfl⟩
  rw [decide_eq_false c1] at h1
  by_cases c2 : rung x < -(edgeR : Int)
  · rw [decide_eq_true c2] at h2
    have hv : wholeP x = -9223372036854775808 := by
      unfold rung at c2
      unfold wholeP
      rw [if_neg hn]
      cases hs : neg x <;> rw [hs] at c2 <;> simp only [Bool.false_eq_true, if_false, if_true] at c2 ⊢
      · omega
      · rw [if_pos (by omega)]
    rw [hv]
    have HN := Lib.hid hn
    have HV := Lib.hid hv
    have C1 := Lib.hid c1
    have HLE := Lib.hid hle
    have C2 := Lib.hid c2
    clear hn hv c1 hle c2
    go_enter Try.func33, Try.ntmps33
    go_wp2_with fail
    go_ret
    exact ⟨rfl, rfl⟩
  rw [decide_eq_false c2] at h2
  obtain ⟨hv, -⟩ := whole_val (x := x) (by omega) (by omega)
  have hrun := run_convert_float_int (P := Try.prog) w 65 2 .f64 .i64 x _ (by kernel_rfl) Try.underlying2 hv
  generalize wholeP x = v at *
  have HN := Lib.hid hn
  have HLE := Lib.hid hle
  have C1 := Lib.hid c1
  have C2 := Lib.hid c2
  have HV := Lib.hid hv
  clear hn hle c1 c2 hv
  go_enter Try.func33, Try.ntmps33
  go_wp2_with fail
  go_ret
  exact ⟨rfl, rfl⟩
/-- What Do tells. -/
def ub (b : Int) : Nat := (IntKind.u64.wrap b).toNat
def fltV (op b c : Int) : Int :=
  if op = 15 then IntKind.i64.wrap (addP (ub b) (ub c) : Nat)
  else if op = 16 then IntKind.i64.wrap (subP (ub b) (ub c) : Nat)
  else if op = 17 then IntKind.i64.wrap (mulP (ub b) (ub c) : Nat)
  else if op = 18 then IntKind.i64.wrap (divP (ub b) (ub c) : Nat)
  else if op = 19 then belowP (ub b) (ub c)
  else if op = 20 then IntKind.i64.wrap (floatP b : Nat)
  else if op = 21 then wholeP (ub b) else 0
def fltE (op : Int) : Int := if 15 ≤ op ∧ op ≤ 21 then 0 else 9
theorem ub_lt (b : Int) : ub b < 2 ^ 64 := by
  unfold ub
  rw [IntKind.wrap_u64]
  have h1 := Int.emod_nonneg b (show (18446744073709551616 : Int) ≠ 0 by decide)
  have h2 := Int.emod_lt_of_pos b (show (0 : Int) < 18446744073709551616 by decide)
  omega
theorem order_less {x y : Nat} : (FloatKind.f64.format.order x y == some .lt) = decide (belowP x y = 1) := by
  unfold belowP
  rw [fmt64]
  by_cases h : infR < mag x ∨ infR < mag y
  · rw [if_pos h, order_nan h]; rfl
  · rw [if_neg h, order_eq (by omega) (by omega), compare_int]
    by_cases c : rung x < rung y
    · rw [if_pos c, if_pos c]; rfl
    · rw [if_neg c, if_neg c]
      split <;> rfl
theorem below_or (x y : Nat) : belowP x y = 1 ∨ belowP x y = 0 := by
  unfold belowP
  split
  · exact .inr rfl
  · split
    · exact .inl rfl
    · exact .inr rfl
theorem float_of (n : Int) : floatOfInt .f64 n = floatP n := float_eq n
theorem fine_float (n : Int) : Fine (floatP n) := fine_sgn _ (rnd_le _ _ _)
set_option maxHeartbeats 1000000 in
set_option maxRecDepth 100000 in
theorem flt_any (op b c : Int) (w : World) : Calls Try.prog 22 #[.int .i64 op, .int .i64 b, .int .i64 c] w fun e w' => e = .returned (.tuple #[.int .i64 (fltV op b c), .int .i64 (fltE op)]) ∧ New w w' := by
  have hbl := ub_lt b
  have hcl := ub_lt c
  have HF := Lib.hid (fun b W => (show Calls Try.prog 31 #[.int .i64 b] W fun e w' => e = .returned (.float .f64 (ub b)) ∧ W = w' from float_any b W))
  have HB := Lib.hid (fun x W => bits_any x W)
  have HW := Lib.hid (fun x W => whole_any x W)
  by_cases o15 : op = 15
  · subst o15
    obtain ⟨r, w1, h1, k1, v1⟩ := farith_any .add (by simp) (ub b) (ub c) _ (add_eq hbl hcl) (fine_add hbl hcl) w
    have hE : fltV 15 b c = IntKind.i64.wrap (oneNaN r : Nat) := by rw [v1]; rfl
    have K1 := Lib.hid k1
    have V1 := Lib.hid v1
    have HE := Lib.hid hE
    have HBL := Lib.hid hbl
    have HCL := Lib.hid hcl
    clear k1 v1 hE hbl hcl
    go_enter Try.func22, Try.ntmps22
    go_wp2_with (first | (go_at_call 31; refine (HF.out _ _).mono ?_; rintro e w' ⟨rfl, rfl⟩) | (go_at_call 32; refine (HB.out _ _).mono ?_; rintro e w' ⟨rfl, rfl⟩) | (go_at_call 33; refine (HW.out _ _).mono ?_; rintro e w' ⟨rfl, rfl⟩))
    go_ret2
    exact ⟨by rw [HE.out]; rfl, K1.out⟩
  have g15 : (op == 15) = false := by simpa using o15
  by_cases o16 : op = 16
  · subst o16
    obtain ⟨r, w1, h1, k1, v1⟩ := farith_any .sub (by simp) (ub b) (ub c) _ (sub_eq hbl hcl) (fine_sub hbl hcl) w
    have hE : fltV 16 b c = IntKind.i64.wrap (oneNaN r : Nat) := by rw [v1]; rfl
    have K1 := Lib.hid k1
    have V1 := Lib.hid v1
    have HE := Lib.hid hE
    have HBL := Lib.hid hbl
    have HCL := Lib.hid hcl
    clear k1 v1 hE hbl hcl
    go_enter Try.func22, Try.ntmps22
    go_wp2_with (first | (go_at_call 31; refine (HF.out _ _).mono ?_; rintro e w' ⟨rfl, rfl⟩) | (go_at_call 32; refine (HB.out _ _).mono ?_; rintro e w' ⟨rfl, rfl⟩) | (go_at_call 33; refine (HW.out _ _).mono ?_; rintro e w' ⟨rfl, rfl⟩))
    go_ret2
    exact ⟨by rw [HE.out]; rfl, K1.out⟩
  have g16 : (op == 16) = false := by simpa using o16
  by_cases o17 : op = 17
  · subst o17
    obtain ⟨r, w1, h1, k1, v1⟩ := farith_any .mul (by simp) (ub b) (ub c) _ (mul_eq hbl hcl) (fine_mul) w
    have hE : fltV 17 b c = IntKind.i64.wrap (oneNaN r : Nat) := by rw [v1]; rfl
    have K1 := Lib.hid k1
    have V1 := Lib.hid v1
    have HE := Lib.hid hE
    have HBL := Lib.hid hbl
    have HCL := Lib.hid hcl
    clear k1 v1 hE hbl hcl
    go_enter Try.func22, Try.ntmps22
    go_wp2_with (first | (go_at_call 31; refine (HF.out _ _).mono ?_; rintro e w' ⟨rfl, rfl⟩) | (go_at_call 32; refine (HB.out _ _).mono ?_; rintro e w' ⟨rfl, rfl⟩) | (go_at_call 33; refine (HW.out _ _).mono ?_; rintro e w' ⟨rfl, rfl⟩))
    go_ret2
    exact ⟨by rw [HE.out]; rfl, K1.out⟩
  have g17 : (op == 17) = false := by simpa using o17
  by_cases o18 : op = 18
  · subst o18
    obtain ⟨r, w1, h1, k1, v1⟩ := farith_any .quo (by simp) (ub b) (ub c) _ (div_eq hbl hcl) (fine_div) w
    have hE : fltV 18 b c = IntKind.i64.wrap (oneNaN r : Nat) := by rw [v1]; rfl
    have K1 := Lib.hid k1
    have V1 := Lib.hid v1
    have HE := Lib.hid hE
    have HBL := Lib.hid hbl
    have HCL := Lib.hid hcl
    clear k1 v1 hE hbl hcl
    go_enter Try.func22, Try.ntmps22
    go_wp2_with (first | (go_at_call 31; refine (HF.out _ _).mono ?_; rintro e w' ⟨rfl, rfl⟩) | (go_at_call 32; refine (HB.out _ _).mono ?_; rintro e w' ⟨rfl, rfl⟩) | (go_at_call 33; refine (HW.out _ _).mono ?_; rintro e w' ⟨rfl, rfl⟩))
    go_ret2
    exact ⟨by rw [HE.out]; rfl, K1.out⟩
  have g18 : (op == 18) = false := by simpa using o18
  by_cases o19 : op = 19
  · subst o19
    have ho := order_less (x := ub b) (y := ub c)
    have hE : fltV 19 b c = belowP (ub b) (ub c) := rfl
    rcases below_or (ub b) (ub c) with h1 | h1
    · rw [h1] at hE ho
      have ho : (FloatKind.f64.format.order (ub b) (ub c) == some .lt) = true := ho
      have HE := Lib.hid hE
      have HBL := Lib.hid hbl
      have HCL := Lib.hid hcl
      have H1 := Lib.hid h1
      clear hE hbl hcl h1
      go_enter Try.func22, Try.ntmps22
      go_wp2_with (first | (go_at_call 31; refine (HF.out _ _).mono ?_; rintro e w' ⟨rfl, rfl⟩) | (go_at_call 32; refine (HB.out _ _).mono ?_; rintro e w' ⟨rfl, rfl⟩) | (go_at_call 33; refine (HW.out _ _).mono ?_; rintro e w' ⟨rfl, rfl⟩))
      go_ret2
      exact ⟨by rw [HE.out]; rfl, Kept.refl _ _⟩
    · rw [h1] at hE ho
      have ho : (FloatKind.f64.format.order (ub b) (ub c) == some .lt) = false := ho
      have HE := Lib.hid hE
      have HBL := Lib.hid hbl
      have HCL := Lib.hid hcl
      have H1 := Lib.hid h1
      clear hE hbl hcl h1
      go_enter Try.func22, Try.ntmps22
      go_wp2_with (first | (go_at_call 31; refine (HF.out _ _).mono ?_; rintro e w' ⟨rfl, rfl⟩) | (go_at_call 32; refine (HB.out _ _).mono ?_; rintro e w' ⟨rfl, rfl⟩) | (go_at_call 33; refine (HW.out _ _).mono ?_; rintro e w' ⟨rfl, rfl⟩))
      go_ret2
      exact ⟨by rw [HE.out]; rfl, Kept.refl _ _⟩
  have g19 : (op == 19) = false := by simpa using o19
  by_cases o20 : op = 20
  · subst o20
    have h1 := run_convert_int_float (P := Try.prog) (w := w) 2 65 .i64 .f64 b (by kernel_rfl) Try.underlying65
    rw [float_of] at h1
    have hE : fltV 20 b c = IntKind.i64.wrap (oneNaN (floatP b) : Nat) := by rw [(fine_float b).2]; rfl
    generalize floatP b = r at *
    have HE := Lib.hid hE
    have HBL := Lib.hid hbl
    have HCL := Lib.hid hcl
    clear hE hbl hcl
    go_enter Try.func22, Try.ntmps22
    go_wp2_with (first | (go_at_call 31; refine (HF.out _ _).mono ?_; rintro e w' ⟨rfl, rfl⟩) | (go_at_call 32; refine (HB.out _ _).mono ?_; rintro e w' ⟨rfl, rfl⟩) | (go_at_call 33; refine (HW.out _ _).mono ?_; rintro e w' ⟨rfl, rfl⟩))
    go_ret2
    exact ⟨by rw [HE.out]; rfl, Kept.refl _ _⟩
  have g20 : (op == 20) = false := by simpa using o20
  by_cases o21 : op = 21
  · subst o21
    have hE : fltV 21 b c = wholeP (ub b) := rfl
    have HE := Lib.hid hE
    have HBL := Lib.hid hbl
    have HCL := Lib.hid hcl
    clear hE hbl hcl
    go_enter Try.func22, Try.ntmps22
    go_wp2_with (first | (go_at_call 31; refine (HF.out _ _).mono ?_; rintro e w' ⟨rfl, rfl⟩) | (go_at_call 32; refine (HB.out _ _).mono ?_; rintro e w' ⟨rfl, rfl⟩) | (go_at_call 33; refine (HW.out _ _).mono ?_; rintro e w' ⟨rfl, rfl⟩))
    go_ret2
    exact ⟨by rw [HE.out]; rfl, Kept.refl _ _⟩
  have g21 : (op == 21) = false := by simpa using o21
  have hV : fltV op b c = 0 := by unfold fltV; rw [if_neg o15, if_neg o16, if_neg o17, if_neg o18, if_neg o19, if_neg o20, if_neg o21]
  have hE : fltE op = 9 := by unfold fltE; rw [if_neg (by omega)]
  rw [hV, hE]
  have HE := Lib.hid hE
  have HV := Lib.hid hV
  have HBL := Lib.hid hbl
  have HCL := Lib.hid hcl
  have O15 := Lib.hid o15
  have O16 := Lib.hid o16
  have O17 := Lib.hid o17
  have O18 := Lib.hid o18
  have O19 := Lib.hid o19
  have O20 := Lib.hid o20
  have O21 := Lib.hid o21
  clear hE hV hbl hcl o15 o16 o17 o18 o19 o20 o21
  go_enter Try.func22, Try.ntmps22
  go_wp2_with (first | (go_at_call 31; refine (HF.out _ _).mono ?_; rintro e w' ⟨rfl, rfl⟩) | (go_at_call 32; refine (HB.out _ _).mono ?_; rintro e w' ⟨rfl, rfl⟩) | (go_at_call 33; refine (HW.out _ _).mono ?_; rintro e w' ⟨rfl, rfl⟩))
  go_ret2
  exact ⟨rfl, Kept.refl _ _⟩
end Go.Proofs.Ytilioiebecpknaa.Cpu
