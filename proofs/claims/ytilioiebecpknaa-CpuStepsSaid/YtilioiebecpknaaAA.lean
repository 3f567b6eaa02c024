/- Plain laws of shifts on int64. No program in sight. -/
import Derived.Test.YtilioiebecpknaaAluPlain
import Derived.Test.YtilioiebecpknaaAluD
import Derived.Test.YtilioiebecpknaaCpuF
import Derived.Deep.QuietTactic
import Derived.BigQuiet
namespace Go.AluP
open Go.RowKit

/-- 2^x, as a shift by x reads it. -/
def pw (x : Int) : Int := 2 ^ min x.toNat 64
theorem pw_pos (x : Int) : 0 < pw x := Int.pow_pos (by decide)
theorem u64_id {c : Int} (h0 : 0 ≤ c) (h1 : c ≤ 9223372036854775807) : IntKind.u64.wrap c = c := by rw [IntKind.wrap_u64]; omega
theorem shl_pw {b c : Int} (h0 : 0 ≤ c) (h1 : c ≤ 9223372036854775807) : shl b c = wrap64 (b * pw c) := by
  unfold shl pw; rw [if_neg (by omega), u64_id h0 h1]
theorem shr_pw {b c : Int} (h0 : 0 ≤ c) (h1 : c ≤ 9223372036854775807) : shr b c = b / pw c := by
  unfold shr pw; rw [if_neg (by omega), u64_id h0 h1]
theorem wrap_mul (a k : Int) : wrap64 (wrap64 a * k) = wrap64 (a * k) := by
  have e : wrap64 a * k = a * k - 18446744073709551616 * ((a + 9223372036854775808) / 18446744073709551616 * k) := by
    unfold wrap64
    have h1 := Int.emod_def (a + 9223372036854775808) 18446744073709551616
    rw [h1, ← Int.mul_assoc, ← Int.sub_mul]
    congr 1; omega
  rw [e]; unfold wrap64; omega
theorem mul_wrap (a k : Int) : wrap64 (k * wrap64 a) = wrap64 (k * a) := by rw [Int.mul_comm, wrap_mul, Int.mul_comm]
theorem pw_mul (x y : Int) (hx : 0 ≤ x) (hy : 0 ≤ y) : pw x * pw y = pw (x + y) ∨ (∃ k : Nat, pw x * pw y = 18446744073709551616 * 2 ^ k ∧ pw (x + y) = 18446744073709551616) := by
  unfold pw
  rw [← Int.pow_add]
  by_cases h : min x.toNat 64 + min y.toNat 64 ≤ 64
  · refine .inl ?_
    congr 1; omega
  · refine .inr ⟨min x.toNat 64 + min y.toNat 64 - 64, ?_, ?_⟩
    · rw [show (18446744073709551616 : Int) = 2 ^ 64 from by decide, ← Int.pow_add]; congr 1; omega
    · rw [show min (x + y).toNat 64 = 64 from by omega]; decide
theorem shl_shl {b x y : Int} (h0 : 0 ≤ x) (h1 : x ≤ 69) (k0 : 0 ≤ y) (k1 : y ≤ 69) : shl (shl b x) y = shl b (x + y) := by
  rw [shl_pw h0 (by omega), shl_pw k0 (by omega), shl_pw (by omega) (by omega), wrap_mul, Int.mul_assoc]
  rcases pw_mul x y h0 k0 with e | ⟨k, e1, e2⟩
  · rw [e]
  · rw [e1, e2, ← Int.mul_assoc, Int.mul_comm b, Int.mul_assoc]
    unfold wrap64; omega
theorem shr_shr {b x y : Int} (hb : In b) (h0 : 0 ≤ x) (h1 : x ≤ 69) (k0 : 0 ≤ y) (k1 : y ≤ 69) : shr (shr b x) y = shr b (x + y) := by
  rw [shr_pw h0 (by omega), shr_pw k0 (by omega), shr_pw (by omega) (by omega), Int.ediv_ediv_of_nonneg (Int.le_of_lt (pw_pos x))]
  rcases pw_mul x y h0 k0 with e | ⟨k, e1, e2⟩
  · rw [e]
  · rw [e1, e2, ← Int.ediv_ediv_of_nonneg (by decide)]
    have hp : (0 : Int) < 2 ^ k := Int.pow_pos (by decide)
    unfold In at hb
    rcases Int.lt_or_le b 0 with h | h
    · have : b / 18446744073709551616 = -1 := by omega
      rw [this]
      exact Int.ediv_eq_neg_one_of_neg_of_le (by decide) (by omega)
    · have : b / 18446744073709551616 = 0 := by omega
      rw [this]; simp
theorem shl_one {b x : Int} (h0 : 0 ≤ x) (h1 : x ≤ 69) : val 5 b (val 11 1 x) = val 11 b x := by
  rw [val11, val11, val5, shl_pw h0 (by omega), shl_pw h0 (by omega), mul_wrap, Int.one_mul]
theorem pw_small {x : Int} (h0 : 0 ≤ x) (h1 : x < 63) : pw x * 2 ^ (63 - x.toNat) = 9223372036854775808 := by
  unfold pw
  rw [← Int.pow_add, show min x.toNat 64 + (63 - x.toNat) = 63 from by omega]; decide
theorem pw_lt {x : Int} (h0 : 0 ≤ x) (h1 : x < 63) : pw x ≤ 4611686018427387904 := by
  have h := pw_small h0 h1
  have : (2 : Int) ≤ 2 ^ (63 - x.toNat) := by
    obtain ⟨k, hk⟩ : ∃ k, 63 - x.toNat = k + 1 := ⟨63 - x.toNat - 1, by omega⟩
    rw [hk, Int.pow_succ]
    have : (0 : Int) < 2 ^ k := Int.pow_pos (by decide)
    omega
  have hp := pw_pos x
  have : pw x * 2 ≤ pw x * 2 ^ (63 - x.toNat) := Int.mul_le_mul_of_nonneg_left this (Int.le_of_lt hp)
  omega
theorem least_div {x : Int} (h0 : 0 ≤ x) (h1 : x < 63) : (-9223372036854775808 / pw x) * pw x = -9223372036854775808 := by
  have h := pw_small h0 h1
  have hp := pw_pos x
  refine Int.ediv_mul_cancel ⟨-2 ^ (63 - x.toNat), ?_⟩
  rw [Int.mul_neg, h]
theorem kept_back {b x : Int} (h0 : 0 ≤ x) (h1 : x < 63) (hm : b ≤ 9223372036854775807 / pw x) (hl : -9223372036854775808 / pw x ≤ b) : val 12 (val 11 b x) x = b := by
  have hp := pw_pos x
  rw [val11, val12, shl_pw h0 (by omega), shr_pw h0 (by omega)]
  have a1 : b * pw x ≤ 9223372036854775807 := (Int.le_ediv_iff_mul_le hp).1 hm
  have a2 : -9223372036854775808 ≤ b * pw x := by
    have := Int.mul_le_mul_of_nonneg_right hl (Int.le_of_lt hp)
    rw [least_div h0 h1] at this; exact this
  rw [wrap_id ⟨a2, a1⟩]
  exact Int.mul_ediv_cancel b (by omega)
theorem shr_neg {b x : Int} (h0 : 0 ≤ x) (h1 : x ≤ 69) : (decide (val 12 b x < 0)) = decide (b < 0) := by
  rw [val12, shr_pw h0 (by omega)]
  have hp := pw_pos x
  rw [decide_eq_decide, ← Int.not_le, ← Int.not_le, Int.ediv_nonneg_iff_of_pos hp]
theorem down_le {b x : Int} (hb : In b) (h0 : 0 ≤ x) (h1 : x < 63) : val 5 (val 12 b x) (val 11 1 x) ≤ b ∧ wrap64 (b - val 5 (val 12 b x) (val 11 1 x)) < val 11 1 x ∧ -9223372036854775808 ≤ val 5 (val 12 b x) (val 11 1 x) := by
  have hp := pw_pos x
  have hl := pw_lt h0 h1
  rw [val5, val11, val12, shl_pw h0 (by omega), shr_pw h0 (by omega), Int.one_mul]
  have e1 : wrap64 (pw x) = pw x := wrap_id ⟨by omega, by omega⟩
  rw [e1]
  have m1 := Int.emod_nonneg b (show pw x ≠ 0 by omega)
  have m2 := Int.emod_lt_of_pos b hp
  have m3 := Int.mul_ediv_add_emod b (pw x)
  rw [Int.mul_comm] at m3
  have m4 : -9223372036854775808 ≤ b / pw x * pw x := by
    have : -9223372036854775808 / pw x ≤ b / pw x := Int.ediv_le_ediv hp hb.1
    have := Int.mul_le_mul_of_nonneg_right this (Int.le_of_lt hp)
    rw [least_div h0 h1] at this; exact this
  unfold In at hb
  have e2 : wrap64 (b / pw x * pw x) = b / pw x * pw x := wrap_id ⟨m4, by omega⟩
  rw [e2]
  have e3 : wrap64 (b - b / pw x * pw x) = b - b / pw x * pw x := wrap_id ⟨by omega, by omega⟩
  rw [e3]
  exact ⟨by omega, by omega, m4⟩
theorem shl_below {b x : Int} (h : 0 ≤ x) : val 11 b (-1 - x) = b := by rw [val11]; unfold shl; rw [if_pos (by omega)]
theorem shr_below {b x : Int} (h : 0 ≤ x) : val 12 b (-1 - x) = b := by rw [val12]; unfold shr; rw [if_pos (by omega)]
end Go.AluP

namespace Go.AluP
open Go.RowKit

/-! ### up, down -/
def upTo (b : Int) (k : Nat) : Int := wrap64 (b * 2 ^ k)
theorem upTo_zero {b : Int} (hb : In b) : upTo b 0 = b := by unfold upTo; rw [Int.pow_zero, Int.mul_one, wrap_id hb]
theorem upTo_succ (b : Int) (k : Nat) : wrap64 (upTo b k + upTo b k) = upTo b (k + 1) := by
  unfold upTo
  have : wrap64 (b * 2 ^ k) + wrap64 (b * 2 ^ k) = wrap64 (b * 2 ^ k) * 2 := by omega
  rw [this, wrap_mul, Int.pow_succ, Int.mul_assoc]
theorem upTo_end {b c : Int} (hb : In b) (hc : In c) (k : Nat) (hk : k ≤ 64) (h1 : (k : Int) ≤ c ∨ k = 0) (h2 : c ≤ k ∨ k = 64) : upTo b k = shl b c := by
  unfold In at hc
  rcases Int.lt_or_le c 0 with h | h
  · have : k = 0 := by omega
    subst this
    rw [upTo_zero hb]; unfold shl; rw [if_pos h]
  · rw [shl_pw h (by omega)]; unfold upTo pw
    rw [show min c.toNat 64 = k by omega]
def dnTo (b : Int) (k : Nat) : Int := b / 2 ^ k
theorem dnTo_zero (b : Int) : dnTo b 0 = b := by unfold dnTo; simp
theorem dnTo_in {b : Int} (hb : In b) (k : Nat) : In (dnTo b k) := by
  induction k with
  | zero => rw [dnTo_zero]; exact hb
  | succ k ih =>
    have e : dnTo b (k + 1) = dnTo b k / 2 := by unfold dnTo; rw [Int.pow_succ, Int.ediv_ediv_of_nonneg (Int.le_of_lt (Int.pow_pos (by decide)))]
    rw [e]; unfold In at *; omega
theorem dnTo_succ (b : Int) (k : Nat) : dnTo b (k + 1) = dnTo b k / 2 := by unfold dnTo; rw [Int.pow_succ, Int.ediv_ediv_of_nonneg (Int.le_of_lt (Int.pow_pos (by decide)))]
theorem dnTo_end {b c : Int} (hc : In c) (k : Nat) (hk : k ≤ 64) (h1 : (k : Int) ≤ c ∨ k = 0) (h2 : c ≤ k ∨ k = 64) : dnTo b k = shr b c := by
  unfold In at hc
  rcases Int.lt_or_le c 0 with h | h
  · have : k = 0 := by omega
    subst this
    rw [dnTo_zero]; unfold shr; rw [if_pos h]
  · rw [shr_pw h (by omega)]; unfold dnTo pw
    rw [show min c.toNat 64 = k by omega]

theorem tmod2 {d : Int} (h : d < 0) : d.tmod 2 = -((-d) % 2) := by
  have := Int.neg_tmod (-d) 2
  rw [Int.neg_neg, Int.tmod_eq_emod_of_nonneg (a := -d) (by omega)] at this; exact this
theorem tdiv2 {d : Int} (h : d < 0) : d.tdiv 2 = -((-d) / 2) := by
  have := Int.neg_tdiv (-d) 2
  rw [Int.neg_neg, Int.tdiv_eq_ediv_of_nonneg (a := -d) (by omega)] at this; exact this
/-! ### by -/
def sz (n : Int) : Int := if n < 0 then -n else n
theorem tdiv_sz (b c : Int) : b.tdiv c = if (decide (b < 0) != decide (c < 0)) = true then -(sz b / sz c) else sz b / sz c := by
  unfold sz
  rcases Int.lt_or_le b 0 with h | h <;> rcases Int.lt_or_le c 0 with k | k
  · have d1 : decide (b < 0) = true := by simpa using h
    have d2 : decide (c < 0) = true := by simpa using k
    rw [d1, d2, if_pos h, if_pos k, if_neg (show ¬ (true != true) = true by decide)]
    obtain ⟨x, rfl⟩ : ∃ x, b = -x := ⟨-b, by omega⟩
    obtain ⟨y, rfl⟩ : ∃ y, c = -y := ⟨-c, by omega⟩
    rw [Int.neg_tdiv_neg, Int.neg_neg, Int.neg_neg, Int.tdiv_eq_ediv_of_nonneg (by omega)]
  · have d1 : decide (b < 0) = true := by simpa using h
    have d2 : decide (c < 0) = false := by simpa using k
    rw [d1, d2, if_pos h, if_neg (show ¬ c < 0 by omega), if_pos (show (true != false) = true by decide)]
    obtain ⟨x, rfl⟩ : ∃ x, b = -x := ⟨-b, by omega⟩
    rw [Int.neg_tdiv, Int.neg_neg, Int.tdiv_eq_ediv_of_nonneg (by omega)]
  · have d1 : decide (b < 0) = false := by simpa using h
    have d2 : decide (c < 0) = true := by simpa using k
    rw [d1, d2, if_neg (show ¬ b < 0 by omega), if_pos k, if_pos (show (false != true) = true by decide)]
    obtain ⟨y, rfl⟩ : ∃ y, c = -y := ⟨-c, by omega⟩
    rw [Int.tdiv_neg, Int.neg_neg, Int.tdiv_eq_ediv_of_nonneg h]
  · have d1 : decide (b < 0) = false := by simpa using h
    have d2 : decide (c < 0) = false := by simpa using k
    rw [d1, d2, if_neg (show ¬ b < 0 by omega), if_neg (show ¬ c < 0 by omega), if_neg (show ¬ (false != false) = true by decide), Int.tdiv_eq_ediv_of_nonneg h]
theorem quo_sz {b c : Int} (h : c ≠ 0) : ((!decide (b < 0) == decide (c < 0)) = true → quo b c = wrap64 (-(sz b / sz c))) ∧ ((!decide (b < 0) == decide (c < 0)) = false → quo b c = wrap64 (sz b / sz c)) := by
  have e := tdiv_sz b c
  have hq : quo b c = wrap64 (b.tdiv c) := by unfold quo; rw [if_neg h]
  rw [hq, e]
  cases decide (b < 0) <;> cases decide (c < 0) <;> simp
theorem sz_in {n : Int} (h : In n) : 0 ≤ sz n ∧ sz n ≤ 9223372036854775808 := by unfold In at h; unfold sz; split <;> omega

/-! ### bits -/
/-- The lowest k bits of x. -/
def low (x : BitVec 64) (k : Nat) : Nat := x.toNat % 2 ^ k
theorem low_zero (x : BitVec 64) : low x 0 = 0 := by unfold low; omega
theorem low_all (x : BitVec 64) : low x 64 = x.toNat := by unfold low; exact Nat.mod_eq_of_lt x.isLt
theorem low_lt (x : BitVec 64) (k : Nat) : low x k < 2 ^ k := Nat.mod_lt _ (Nat.pow_pos (by decide))
theorem low_succ (x : BitVec 64) (k : Nat) : low x (k + 1) = low x k ||| ((x.getLsbD k).toNat * 2 ^ k) := by
  apply Nat.eq_of_testBit_eq
  intro i
  unfold low
  rw [Nat.testBit_or, Nat.testBit_mod_two_pow, Nat.testBit_mod_two_pow, Nat.testBit_mul_two_pow]
  by_cases h : i < k
  · have h1 : i < k + 1 := by omega
    have h2 : ¬ k ≤ i := by omega
    simp [h, h1, h2]
  · by_cases h3 : i = k
    · subst h3
      simp [BitVec.testBit_toNat]
      cases x.getLsbD i <;> simp
    · have h1 : ¬ i < k + 1 := by omega
      have h4 : k ≤ i := by omega
      simp only [h, h1, decide_false, Bool.false_and, Bool.false_or, h4, decide_true, Bool.true_and]
      have : i - k ≠ 0 := by omega
      cases x.getLsbD k
      · simp
      · obtain ⟨m, hm⟩ : ∃ m, i - k = m + 1 := ⟨i - k - 1, by omega⟩
        rw [hm]; simp [Nat.testBit_succ]
theorem toNat_mod64 (z : Nat) (h : z < 18446744073709551616) : ((z : Int) % ((2 ^ 64 : Nat) : Int)).toNat = z := by omega
theorem u64_of (b : Int) : IntKind.u64.wrap b = ((BitVec.ofInt 64 b).toNat : Int) := by
  rw [IntKind.wrap_u64, BitVec.toNat_ofInt]; omega
theorem u64_nat (x : BitVec 64) : IntKind.u64.wrap (x.toNat : Int) = (x.toNat : Int) := by
  have := x.isLt; rw [IntKind.wrap_u64]; omega
theorem bits64 (op : BitVec 64) : IntKind.u64.wrap (op.toNat : Int) = (op.toNat : Int) := u64_nat op
theorem bit_at (x : BitVec 64) (k : Nat) : bits .and .u64 ((x.toNat : Int) / 2 ^ k) 1 = ((x.getLsbD k).toNat : Int) := by
  have e : ((x.toNat : Int) / 2 ^ k) = ((x.toNat / 2 ^ k : Nat) : Int) := by simp
  show IntKind.u64.wrap ((BitVec.ofInt 64 _ &&& BitVec.ofInt 64 1).toNat : Int) = _
  rw [u64_nat, e, BitVec.toNat_and, BitVec.toNat_ofInt, BitVec.toNat_ofInt]
  have h1 : x.toNat / 2 ^ k < 18446744073709551616 := Nat.lt_of_le_of_lt (Nat.div_le_self _ _) x.isLt
  rw [show ((1 : Int) % ((2 ^ 64 : Nat) : Int)).toNat = 1 by decide]
  rw [toNat_mod64 _ h1]
  rw [Nat.and_one_is_mod, ← Nat.shiftRight_eq_div_pow, BitVec.getLsbD, Nat.testBit, Nat.one_and_eq_mod_two]
  rcases Nat.mod_two_eq_zero_or_one (x.toNat >>> k) with h | h <;> rw [h] <;> rfl
theorem or_low (R : BitVec 64) (k t : Nat) (hk : k < 64) (ht : t = (R.getLsbD k).toNat) : bits .or .u64 (low R k : Int) (IntKind.u64.wrap ((t : Int) * 2 ^ k)) = ((low R (k + 1) : Nat) : Int) := by
  have hp : 2 ^ k < 2 ^ 64 := Nat.pow_lt_pow_right (by decide) hk
  have hl := low_lt R k
  have ht1 : t ≤ 1 := by subst ht; exact Bool.toNat_le _
  have hb : t * 2 ^ k < 18446744073709551616 := by
    have : t * 2 ^ k ≤ 1 * 2 ^ k := Nat.mul_le_mul_right _ ht1
    omega
  have e : ((t : Int) * 2 ^ k) = ((t * 2 ^ k : Nat) : Int) := by simp
  have e2 : IntKind.u64.wrap ((t : Int) * 2 ^ k) = ((t * 2 ^ k : Nat) : Int) := by rw [e, IntKind.wrap_u64]; omega
  rw [e2]
  show IntKind.u64.wrap ((BitVec.ofInt 64 _ ||| BitVec.ofInt 64 _).toNat : Int) = _
  rw [u64_nat, BitVec.toNat_or, BitVec.toNat_ofInt, BitVec.toNat_ofInt]
  rw [toNat_mod64 _ (by omega)]
  rw [toNat_mod64 _ hb]
  rw [low_succ, ht]
theorem i64_of_u64 (x : BitVec 64) : IntKind.i64.wrap (x.toNat : Int) = x.toInt := bv_toInt x
end Go.AluP

namespace Go.Proofs.Ytilioiebecpknaa.Alu
open Go.RowKit Go.AluP Go.Fb
set_option linter.unusedVariables false

theorem ret_int {k : IntKind} {a b : Int} (h : a = b) : Ending.returned (.int k a) = .returned (.int k b) := by rw [h]

theorem size_any (n : Int) (w : World) (H : Hid (In n)) : Calls Try.prog 69 #[.int .i64 n] w fun e w' => e = .returned (.int .u64 (sz n)) ∧ w = w' := by
  obtain ⟨h1, h2⟩ := H.out
  clear H
  by_cases h0 : n < 0
  · have e : sz n = -n := by unfold sz; rw [if_pos h0]
    have E := Lib.hid e; clear e
    go_enter Try.func69, Try.ntmps69
    go_wp2
    go_ret
    exact ⟨ret_int (by rw [E.out]; omega), rfl⟩
  · have e : sz n = n := by unfold sz; rw [if_neg h0]
    have E := Lib.hid e; clear e
    go_enter Try.func69, Try.ntmps69
    go_wp2
    go_ret
    exact ⟨ret_int (by rw [E.out]), rfl⟩
theorem by_any (b c : Int) (w : World) (hb : In b) (hc : In c) : Calls Try.prog 50 #[.int .i64 b, .int .i64 c] w fun e w' => e = .returned (.int .i64 (quo b c)) ∧ w = w' := by
  by_cases h0 : c = 0
  · subst h0
    go_enter Try.func50, Try.ntmps50
    go_wp2
    go_ret
    exact ⟨rfl, rfl⟩
  · obtain ⟨hq1, hq2⟩ := quo_sz (b := b) h0
    obtain ⟨b0, b1⟩ := sz_in hb
    obtain ⟨c0, c1⟩ := sz_in hc
    have c2 : 1 ≤ sz c := by unfold sz; split <;> omega
    have q1 := IntWalk.tdiv_le (sz b) (sz c) b0 c2
    obtain ⟨B, hB⟩ : ∃ B, sz b = B := ⟨_, rfl⟩
    obtain ⟨C, hC⟩ : ∃ C, sz c = C := ⟨_, rfl⟩
    rw [hB] at b0 b1 q1 hq1 hq2
    rw [hC] at c0 c1 c2 q1 hq1 hq2
    have HQ1 := Lib.hid hq1
    have HQ2 := Lib.hid hq2
    have Hb := Lib.hid hb
    have Hc := Lib.hid hc
    have h0' : (c == 0) = false := by simpa using h0
    clear hb hc hq1 hq2
    go_enter Try.func50, Try.ntmps50
    go_wp2_with (go_at_call 69; refine (size_any _ _ (by assumption)).mono ?_; rintro e w' ⟨rfl, rfl⟩)
    · go_ret
      exact ⟨ret_int (by rw [HQ1.out (by assumption)]; unfold wrap64; rw [IntKind.wrap_u64]; omega), rfl⟩
    · go_ret
      exact ⟨ret_int (by rw [HQ2.out (by assumption)]), rfl⟩
theorem up_any (b c : Int) (w : World) (hb : In b) (hc : In c) : Calls Try.prog 52 #[.int .i64 b, .int .i64 c] w fun e w' => e = .returned (.int .i64 (shl b c)) ∧ w = w' := by
  have Hb := Lib.hid hb
  have Hc := Lib.hid hc
  clear hb hc
  go_enter Try.func52, Try.ntmps52
  go_wp2
  go_loop [0, 5] (fun v i => ∃ k : Nat, k ≤ 64 ∧ ((k : Int) ≤ c ∨ k = 0) ∧ i = .int .i64 k ∧ v = .int .i64 (upTo b k)) (fun _ i => (64 - intOf i).toNat)
  case atStart => exact ⟨0, by omega, .inr rfl, rfl, by rw [upTo_zero Hb.out]⟩
  case round =>
    obtain ⟨k, hk, hkc, rfl, rfl⟩ := hrel
    have HS := Lib.hid (upTo_succ b k)
    have HC := Lib.hid hkc
    clear hkc
    by_cases hlt : (k : Int) < c
    · by_cases hl2 : k < 64
      · go_wp2
        go_round
        case rel => exact ⟨k + 1, by omega, .inl (by omega), by go_num, by rw [HS.out]⟩
        case measure => simp [intOf]; omega
      · go_wp2
        go_ret
        exact ⟨by rw [← upTo_end Hb.out Hc.out k hk HC.out (by omega)]; rfl, rfl⟩
    · go_wp2
      go_ret
      exact ⟨by rw [← upTo_end Hb.out Hc.out k hk HC.out (by omega)]; rfl, rfl⟩
theorem down_any (b c : Int) (w : World) (hb : In b) (hc : In c) : Calls Try.prog 53 #[.int .i64 b, .int .i64 c] w fun e w' => e = .returned (.int .i64 (shr b c)) ∧ w = w' := by
  have Hb := Lib.hid hb
  have Hc := Lib.hid hc
  clear hb hc
  go_enter Try.func53, Try.ntmps53
  go_wp2
  go_loop [0, 5] (fun v i => ∃ k : Nat, k ≤ 64 ∧ ((k : Int) ≤ c ∨ k = 0) ∧ i = .int .i64 k ∧ v = .int .i64 (dnTo b k)) (fun _ i => (64 - intOf i).toNat)
  case atStart => exact ⟨0, by omega, .inr rfl, rfl, by rw [dnTo_zero]⟩
  case round =>
    obtain ⟨k, hk, hkc, rfl, rfl⟩ := hrel
    have HS := Lib.hid (dnTo_succ b k)
    have HC := Lib.hid hkc
    obtain ⟨i1, i2⟩ := dnTo_in Hb.out k
    obtain ⟨d, hd⟩ : ∃ d, dnTo b k = d := ⟨_, rfl⟩
    rw [hd] at i1 i2
    have HD := Lib.hid hd
    rw [hd]
    clear hkc hd
    by_cases hlt : (k : Int) < c
    · by_cases hl2 : k < 64
      · by_cases hn : d < 0
        · by_cases hm : d % 2 = 0
          · have hm' : (d.tmod 2 != 0) = false := by rw [tmod2 hn]; simp; omega
            go_wp2
            go_round
            case rel => exact ⟨k + 1, by omega, .inl (by omega), by go_num, by rw [HS.out, HD.out]; refine congrArg _ ?_; rw [tdiv2 (by omega)]; omega⟩
            case measure => simp [intOf]; omega
          · have hm' : (d.tmod 2 != 0) = true := by rw [tmod2 hn]; simp; omega
            go_wp2
            go_round
            case rel => exact ⟨k + 1, by omega, .inl (by omega), by go_num, by rw [HS.out, HD.out]; refine congrArg _ ?_; rw [tdiv2 (by omega)]; omega⟩
            case measure => simp [intOf]; omega
        · go_wp2
          go_round
          case rel => exact ⟨k + 1, by omega, .inl (by omega), by go_num, by rw [HS.out, HD.out]⟩
          case measure => simp [intOf]; omega
      · go_wp2
        go_ret
        exact ⟨by rw [← dnTo_end Hc.out k hk HC.out (by omega), HD.out]; rfl, rfl⟩
    · go_wp2
      go_ret
      exact ⟨by rw [← dnTo_end Hc.out k hk HC.out (by omega), HD.out]; rfl, rfl⟩
theorem truth_any (x : Bool) (w : World) : Calls Try.prog 54 #[.bool x] w fun e w' => e = .returned (.int .i64 (one x)) ∧ w = w' := by
  cases x <;> (go_enter Try.func54, Try.ntmps54; go_wp2; go_ret; exact ⟨rfl, rfl⟩)
/-- The world behind 'bits': its table's block, and draws. -/
def Boxed (t : Array Value) (w w' : World) : Prop := ∃ n, w' = (w.alloc (.cells t 81)).drewN n
set_option maxHeartbeats 1000000 in
theorem bits_walk (b c : Int) (x y R : BitVec 64) (t0 t1 t2 t3 : Nat) (w : World) (hx : IntKind.u64.wrap b = (x.toNat : Int)) (hy : IntKind.u64.wrap c = (y.toNat : Int))
    (hR : ∀ k, (R.getLsbD k).toNat = if x.getLsbD k = true then (if y.getLsbD k = true then t3 else t2) else (if y.getLsbD k = true then t1 else t0)) :
    Calls Try.prog 51 #[.int .i64 b, .int .i64 c, .agg #[.int .u64 t0, .int .u64 t1, .int .u64 t2, .int .u64 t3]] w fun e w' => e = .returned (.int .i64 R.toInt) ∧ Boxed #[.int .u64 t0, .int .u64 t1, .int .u64 t2, .int .u64 t3] w w' := by
  have HR := Lib.hid hR
  clear hR
  go_enter Try.func51, Try.ntmps51
  go_wp2
  go_loopw [9, 10] (fun v i wr => ∃ k : Nat, k ≤ 64 ∧ i = .int .i64 k ∧ v = .int .u64 (low R k) ∧ ∃ n, wr = (w.alloc (.cells #[.int .u64 t0, .int .u64 t1, .int .u64 t2, .int .u64 t3] 81)).drewN n) (fun _ i _ => (64 - intOf i).toNat)
  case atStart => exact ⟨0, by omega, rfl, by rw [low_zero]; rfl, 0, rfl⟩
  case round =>
    obtain ⟨k, hk, rfl, rfl, n, rfl⟩ := hrel
    by_cases hlt : k < 64
    · have bx := bit_at x k
      have yb := bit_at y k
      have hr := HR.out k
      have ho0 := Lib.hid (fun h => or_low R k t0 hlt h)
      have ho1 := Lib.hid (fun h => or_low R k t1 hlt h)
      have ho2 := Lib.hid (fun h => or_low R k t2 hlt h)
      have ho3 := Lib.hid (fun h => or_low R k t3 hlt h)
      cases h1 : x.getLsbD k <;> cases h2 : y.getLsbD k
      all_goals
        rw [h1, h2] at hr
        rw [h1] at bx
        rw [h2] at yb
        have hr' := Lib.hid hr
        clear hr h1 h2
        simp only [Bool.toNat_true, Bool.toNat_false, Int.natCast_zero, Int.natCast_one] at bx yb
        go_wp2
        go_quiet (fail)
        go_wp2
        go_roundw
        case measure => simp [intOf]; omega
        case rel => first
          | exact ⟨k + 1, by omega, by go_num, congrArg _ (ho0.out (hr'.out.symm)), _, rfl⟩
          | exact ⟨k + 1, by omega, by go_num, congrArg _ (ho1.out (hr'.out.symm)), _, rfl⟩
          | exact ⟨k + 1, by omega, by go_num, congrArg _ (ho2.out (hr'.out.symm)), _, rfl⟩
          | exact ⟨k + 1, by omega, by go_num, congrArg _ (ho3.out (hr'.out.symm)), _, rfl⟩
    · obtain rfl : k = 64 := by omega
      have hl := low_all R
      have he := i64_of_u64 R
      have He := Lib.hid he
      clear he
      go_wp2
      go_ret
      exact ⟨ret_int (by rw [← He.out, IntWalk.i64_left]), _, rfl⟩
theorem bits_and_any (b c : Int) (w : World) : Calls Try.prog 51 #[.int .i64 b, .int .i64 c, .agg #[.int .u64 0, .int .u64 0, .int .u64 0, .int .u64 1]] w fun e w' => e = .returned (.int .i64 (bits .and .i64 b c)) ∧ Boxed #[.int .u64 0, .int .u64 0, .int .u64 0, .int .u64 1] w w' := by
  rw [bits_and]
  refine bits_walk b c _ _ (BitVec.ofInt 64 b &&& BitVec.ofInt 64 c) 0 0 0 1 w (u64_of b) (u64_of c) fun k => ?_
  rw [BitVec.getLsbD_and]
  cases (BitVec.ofInt 64 b).getLsbD k <;> cases (BitVec.ofInt 64 c).getLsbD k <;> rfl
theorem bits_or_any (b c : Int) (w : World) : Calls Try.prog 51 #[.int .i64 b, .int .i64 c, .agg #[.int .u64 0, .int .u64 1, .int .u64 1, .int .u64 1]] w fun e w' => e = .returned (.int .i64 (bits .or .i64 b c)) ∧ Boxed #[.int .u64 0, .int .u64 1, .int .u64 1, .int .u64 1] w w' := by
  rw [bits_or]
  refine bits_walk b c _ _ (BitVec.ofInt 64 b ||| BitVec.ofInt 64 c) 0 1 1 1 w (u64_of b) (u64_of c) fun k => ?_
  rw [BitVec.getLsbD_or]
  cases (BitVec.ofInt 64 b).getLsbD k <;> cases (BitVec.ofInt 64 c).getLsbD k <;> rfl
theorem bits_xor_any (b c : Int) (w : World) : Calls Try.prog 51 #[.int .i64 b, .int .i64 c, .agg #[.int .u64 0, .int .u64 1, .int .u64 1, .int .u64 0]] w fun e w' => e = .returned (.int .i64 (bits .xor .i64 b c)) ∧ Boxed #[.int .u64 0, .int .u64 1, .int .u64 1, .int .u64 0] w w' := by
  rw [bits_xor]
  refine bits_walk b c _ _ (BitVec.ofInt 64 b ^^^ BitVec.ofInt 64 c) 0 1 1 0 w (u64_of b) (u64_of c) fun k => ?_
  rw [BitVec.getLsbD_xor]
  cases (BitVec.ofInt 64 b).getLsbD k <;> cases (BitVec.ofInt 64 c).getLsbD k <;> rfl

theorem new_drewN {W w : World} (h : New W w) (n : Nat) : New W (w.drewN n) := h.drewN n
set_option maxHeartbeats 2000000 in
theorem refDo_any (op b c : Int) (w : World) (Hb : Hid (In b)) (Hc : Hid (In c)) : Calls Try.prog 36 #[.int .i64 op, .int .i64 b, .int .i64 c] w fun e w' => e = .returned (.tuple #[.int .i64 (val op b c), .int .i64 (err op)]) ∧ New w w' := by
  go_enter Try.func36, Try.ntmps36
  go_wp2_with (first | (go_at_call 50; refine (by_any _ _ _ Hb.out Hc.out).mono ?_; rintro e w' ⟨rfl, rfl⟩) | (go_at_call 52; refine (up_any _ _ _ Hb.out Hc.out).mono ?_; rintro e w' ⟨rfl, rfl⟩) | (go_at_call 53; refine (down_any _ _ _ Hb.out Hc.out).mono ?_; rintro e w' ⟨rfl, rfl⟩) | (go_at_call 54; refine (truth_any _ _).mono ?_; rintro e w' ⟨rfl, rfl⟩) | (go_at_call 51; ((with_reducible refine (bits_and_any _ _ _).mono ?_); rintro e w' ⟨rfl, hb⟩; obtain ⟨n, rfl⟩ := hb)) | (go_at_call 51; ((with_reducible refine (bits_or_any _ _ _).mono ?_); rintro e w' ⟨rfl, hb⟩; obtain ⟨n, rfl⟩ := hb)) | (go_at_call 51; ((with_reducible refine (bits_xor_any _ _ _).mono ?_); rintro e w' ⟨rfl, hb⟩; obtain ⟨n, rfl⟩ := hb)))
  all_goals go_ret2
  all_goals first
    | (obtain rfl : op = 3 := WalkArith.int_eq (by assumption); exact ⟨rfl, by first | exact Kept.refl _ _ | exact new_drewN ((Kept.refl _ _).alloc _) _⟩)
    | (obtain rfl : op = 4 := WalkArith.int_eq (by assumption); exact ⟨rfl, by first | exact Kept.refl _ _ | exact new_drewN ((Kept.refl _ _).alloc _) _⟩)
    | (obtain rfl : op = 5 := WalkArith.int_eq (by assumption); exact ⟨rfl, by first | exact Kept.refl _ _ | exact new_drewN ((Kept.refl _ _).alloc _) _⟩)
    | (obtain rfl : op = 6 := WalkArith.int_eq (by assumption); exact ⟨rfl, by first | exact Kept.refl _ _ | exact new_drewN ((Kept.refl _ _).alloc _) _⟩)
    | (obtain rfl : op = 7 := WalkArith.int_eq (by assumption); exact ⟨rfl, by first | exact Kept.refl _ _ | exact new_drewN ((Kept.refl _ _).alloc _) _⟩)
    | (obtain rfl : op = 8 := WalkArith.int_eq (by assumption); exact ⟨rfl, by first | exact Kept.refl _ _ | exact new_drewN ((Kept.refl _ _).alloc _) _⟩)
    | (obtain rfl : op = 9 := WalkArith.int_eq (by assumption); exact ⟨rfl, by first | exact Kept.refl _ _ | exact new_drewN ((Kept.refl _ _).alloc _) _⟩)
    | (obtain rfl : op = 10 := WalkArith.int_eq (by assumption); exact ⟨rfl, by first | exact Kept.refl _ _ | exact new_drewN ((Kept.refl _ _).alloc _) _⟩)
    | (obtain rfl : op = 11 := WalkArith.int_eq (by assumption); exact ⟨rfl, by first | exact Kept.refl _ _ | exact new_drewN ((Kept.refl _ _).alloc _) _⟩)
    | (obtain rfl : op = 12 := WalkArith.int_eq (by assumption); exact ⟨rfl, by first | exact Kept.refl _ _ | exact new_drewN ((Kept.refl _ _).alloc _) _⟩)
    | (obtain rfl : op = 13 := WalkArith.int_eq (by assumption); exact ⟨rfl, by first | exact Kept.refl _ _ | exact new_drewN ((Kept.refl _ _).alloc _) _⟩)
    | (obtain rfl : op = 14 := WalkArith.int_eq (by assumption); exact ⟨rfl, by first | exact Kept.refl _ _ | exact new_drewN ((Kept.refl _ _).alloc _) _⟩)
    | (have k3 := WalkArith.int_ne (a := op) (b := 3) (by assumption)
       have k4 := WalkArith.int_ne (a := op) (b := 4) (by assumption)
       have k5 := WalkArith.int_ne (a := op) (b := 5) (by assumption)
       have k6 := WalkArith.int_ne (a := op) (b := 6) (by assumption)
       have k7 := WalkArith.int_ne (a := op) (b := 7) (by assumption)
       have k8 := WalkArith.int_ne (a := op) (b := 8) (by assumption)
       have k9 := WalkArith.int_ne (a := op) (b := 9) (by assumption)
       have k10 := WalkArith.int_ne (a := op) (b := 10) (by assumption)
       have k11 := WalkArith.int_ne (a := op) (b := 11) (by assumption)
       have k12 := WalkArith.int_ne (a := op) (b := 12) (by assumption)
       have k13 := WalkArith.int_ne (a := op) (b := 13) (by assumption)
       have k14 := WalkArith.int_ne (a := op) (b := 14) (by assumption)
       exact ⟨by rw [val_else (by omega), err_else (by omega)]; rfl, Kept.refl _ _⟩)
end Go.Proofs.Ytilioiebecpknaa.Alu
