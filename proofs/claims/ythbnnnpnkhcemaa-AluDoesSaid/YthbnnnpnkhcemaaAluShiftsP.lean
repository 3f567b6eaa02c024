/- Plain laws of shifts on int64. No program in sight. -/
import Derived.Test.YthbnnnpnkhcemaaAluPlain
namespace Go.AluP
open Go.RowKit

/-- 2^x, as a shift by x reads it. -/
def pw (x : Int) : Int := 2 ^ min x.toNat 64
theorem pw_pos (x : Int) : 0 < pw x := Int.pow_pos (by decide)
theorem u64_id {c : Int} (h0 : 0 ≤ c) (h1 : c ≤ 9223372036854775807) : IntKind.u64.wrap c = c := by rw [IntKind.wrap_u64]; omega
theorem shl_pw {b c : Int} (h0 : 0 ≤ c) (h1 : c ≤ 9223372036854775807) : shl b c = wrap64 (b * pw c) := by
  unfold shl pw; rw [if_neg (by omega), u64_id h0 h1]
theorem shr_pw {b c : Int} (h0 : 0 ≤ c) (h1 : c ≤ 9223372036854775807) : shr b c = b / pw c := by
  unfold shr pw; rw [if_neg (by omega), u64_id h0 h1]
theorem wrap_mul (a k : Int) : wrap64 (wrap64 a * k) = wrap64 (a * k) := by
  have e : wrap64 a * k = a * k - 18446744073709551616 * ((a + 9223372036854775808) / 18446744073709551616 * k) := by
    unfold wrap64
    have h1 := Int.emod_def (a + 9223372036854775808) 18446744073709551616
    rw [h1, ← Int.mul_assoc, ← Int.sub_mul]
    congr 1; omega
  rw [e]; unfold wrap64; omega
theorem mul_wrap (a k : Int) : wrap64 (k * wrap64 a) = wrap64 (k * a) := by rw [Int.mul_comm, wrap_mul, Int.mul_comm]
theorem pw_mul (x y : Int) (hx : 0 ≤ x) (hy : 0 ≤ y) : pw x * pw y = pw (x + y) ∨ (∃ k : Nat, pw x * pw y = 18446744073709551616 * 2 ^ k ∧ pw (x + y) = 18446744073709551616) := by
  unfold pw
  rw [← Int.pow_add]
  by_cases h : min x.toNat 64 + min y.toNat 64 ≤ 64
  · refine .inl ?_
    congr 1; omega
  · refine .inr ⟨min x.toNat 64 + min y.toNat 64 - 64, ?_, ?_⟩
    · rw [show (18446744073709551616 : Int) = 2 ^ 64 from by decide, ← Int.pow_add]; congr 1; omega
    · rw [show min (x + y).toNat 64 = 64 from by omega]; decide
theorem shl_shl {b x y : Int} (h0 : 0 ≤ x) (h1 : x ≤ 69) (k0 : 0 ≤ y) (k1 : y ≤ 69) : shl (shl b x) y = shl b (x + y) := by
  rw [shl_pw h0 (by omega), shl_pw k0 (by omega), shl_pw (by omega) (by omega), wrap_mul, Int.mul_assoc]
  rcases pw_mul x y h0 k0 with e | ⟨k, e1, e2⟩
  · rw [e]
  · rw [e1, e2, ← Int.mul_assoc, Int.mul_comm b, Int.mul_assoc]
    unfold wrap64; omega
theorem shr_shr {b x y : Int} (hb : In b) (h0 : 0 ≤ x) (h1 : x ≤ 69) (k0 : 0 ≤ y) (k1 : y ≤ 69) : shr (shr b x) y = shr b (x + y) := by
  rw [shr_pw h0 (by omega), shr_pw k0 (by omega), shr_pw (by omega) (by omega), Int.ediv_ediv_of_nonneg (Int.le_of_lt (pw_pos x))]
  rcases pw_mul x y h0 k0 with e | ⟨k, e1, e2⟩
  · rw [e]
  · rw [e1, e2, ← Int.ediv_ediv_of_nonneg (by decide)]
    have hp : (0 : Int) < 2 ^ k := Int.pow_pos (by decide)
    unfold In at hb
    rcases Int.lt_or_le b 0 with h | h
    · have : b / 18446744073709551616 = -1 := by omega
      rw [this]
      exact Int.ediv_eq_neg_one_of_neg_of_le (by decide) (by omega)
    · have : b / 18446744073709551616 = 0 := by omega
      rw [this]; simp
theorem shl_one {b x : Int} (h0 : 0 ≤ x) (h1 : x ≤ 69) : val 5 b (val 11 1 x) = val 11 b x := by
  rw [val11, val11, val5, shl_pw h0 (by omega), shl_pw h0 (by omega), mul_wrap, Int.one_mul]
theorem pw_small {x : Int} (h0 : 0 ≤ x) (h1 : x < 63) : pw x * 2 ^ (63 - x.toNat) = 9223372036854775808 := by
  unfold pw
  rw [← Int.pow_add, show min x.toNat 64 + (63 - x.toNat) = 63 from by omega]; decide
theorem pw_lt {x : Int} (h0 : 0 ≤ x) (h1 : x < 63) : pw x ≤ 4611686018427387904 := by
  have h := pw_small h0 h1
  have : (2 : Int) ≤ 2 ^ (63 - x.toNat) := by
    obtain ⟨k, hk⟩ : ∃ k, 63 - x.toNat = k + 1 := ⟨63 - x.toNat - 1, by omega⟩
    rw [hk, Int.pow_succ]
    have : (0 : Int) < 2 ^ k := Int.pow_pos (by decide)
    omega
  have hp := pw_pos x
  have : pw x * 2 ≤ pw x * 2 ^ (63 - x.toNat) := Int.mul_le_mul_of_nonneg_left this (Int.le_of_lt hp)
  omega
theorem least_div {x : Int} (h0 : 0 ≤ x) (h1 : x < 63) : (-9223372036854775808 / pw x) * pw x = -9223372036854775808 := by
  have h := pw_small h0 h1
  have hp := pw_pos x
  refine Int.ediv_mul_cancel ⟨-2 ^ (63 - x.toNat), ?_⟩
  rw [Int.mul_neg, h]
theorem kept_back {b x : Int} (h0 : 0 ≤ x) (h1 : x < 63) (hm : b ≤ 9223372036854775807 / pw x) (hl : -9223372036854775808 / pw x ≤ b) : val 12 (val 11 b x) x = b := by
  have hp := pw_pos x
  rw [val11, val12, shl_pw h0 (by omega), shr_pw h0 (by omega)]
  have a1 : b * pw x ≤ 9223372036854775807 := (Int.le_ediv_iff_mul_le hp).1 hm
  have a2 : -9223372036854775808 ≤ b * pw x := by
    have := Int.mul_le_mul_of_nonneg_right hl (Int.le_of_lt hp)
    rw [least_div h0 h1] at this; exact this
  rw [wrap_id ⟨a2, a1⟩]
  exact Int.mul_ediv_cancel b (by omega)
theorem shr_neg {b x : Int} (h0 : 0 ≤ x) (h1 : x ≤ 69) : (decide (val 12 b x < 0)) = decide (b < 0) := by
  rw [val12, shr_pw h0 (by omega)]
  have hp := pw_pos x
  rw [decide_eq_decide, ← Int.not_le, ← Int.not_le, Int.ediv_nonneg_iff_of_pos hp]
theorem down_le {b x : Int} (hb : In b) (h0 : 0 ≤ x) (h1 : x < 63) : val 5 (val 12 b x) (val 11 1 x) ≤ b ∧ wrap64 (b - val 5 (val 12 b x) (val 11 1 x)) < val 11 1 x ∧ -9223372036854775808 ≤ val 5 (val 12 b x) (val 11 1 x) := by
  have hp := pw_pos x
  have hl := pw_lt h0 h1
  rw [val5, val11, val12, shl_pw h0 (by omega), shr_pw h0 (by omega), Int.one_mul]
  have e1 : wrap64 (pw x) = pw x := wrap_id ⟨by omega, by omega⟩
  rw [e1]
  have m1 := Int.emod_nonneg b (show pw x ≠ 0 by omega)
  have m2 := Int.emod_lt_of_pos b hp
  have m3 := Int.mul_ediv_add_emod b (pw x)
  rw [Int.mul_comm] at m3
  have m4 : -9223372036854775808 ≤ b / pw x * pw x := by
    have : -9223372036854775808 / pw x ≤ b / pw x := Int.ediv_le_ediv hp hb.1
    have := Int.mul_le_mul_of_nonneg_right this (Int.le_of_lt hp)
    rw [least_div h0 h1] at this; exact this
  unfold In at hb
  have e2 : wrap64 (b / pw x * pw x) = b / pw x * pw x := wrap_id ⟨m4, by omega⟩
  rw [e2]
  have e3 : wrap64 (b - b / pw x * pw x) = b - b / pw x * pw x := wrap_id ⟨by omega, by omega⟩
  rw [e3]
  exact ⟨by omega, by omega, m4⟩
theorem shl_below {b x : Int} (h : 0 ≤ x) : val 11 b (-1 - x) = b := by rw [val11]; unfold shl; rw [if_pos (by omega)]
theorem shr_below {b x : Int} (h : 0 ≤ x) : val 12 b (-1 - x) = b := by rw [val12]; unfold shr; rw [if_pos (by omega)]
end Go.AluP
