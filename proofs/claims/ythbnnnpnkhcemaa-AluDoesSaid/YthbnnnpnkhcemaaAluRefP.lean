/- Plain laws of the document's answer for layer 4. No program in sight. -/
import Derived.Test.YthbnnnpnkhcemaaAluShiftsP
namespace Go.AluP
open Go.RowKit

/-! ### up, down -/
def upTo (b : Int) (k : Nat) : Int := wrap64 (b * 2 ^ k)
theorem upTo_zero {b : Int} (hb : In b) : upTo b 0 = b := by unfold upTo; rw [Int.pow_zero, Int.mul_one, wrap_id hb]
theorem upTo_succ (b : Int) (k : Nat) : wrap64 (upTo b k + upTo b k) = upTo b (k + 1) := by
  unfold upTo
  have : wrap64 (b * 2 ^ k) + wrap64 (b * 2 ^ k) = wrap64 (b * 2 ^ k) * 2 := by omega
  rw [this, wrap_mul, Int.pow_succ, Int.mul_assoc]
theorem upTo_end {b c : Int} (hb : In b) (hc : In c) (k : Nat) (hk : k ≤ 64) (h1 : (k : Int) ≤ c ∨ k = 0) (h2 : c ≤ k ∨ k = 64) : upTo b k = shl b c := by
  unfold In at hc
  rcases Int.lt_or_le c 0 with h | h
  · have : k = 0 := by omega
    subst this
    rw [upTo_zero hb]; unfold shl; rw [if_pos h]
  · rw [shl_pw h (by omega)]; unfold upTo pw
    rw [show min c.toNat 64 = k by omega]
def dnTo (b : Int) (k : Nat) : Int := b / 2 ^ k
theorem dnTo_zero (b : Int) : dnTo b 0 = b := by unfold dnTo; simp
theorem dnTo_in {b : Int} (hb : In b) (k : Nat) : In (dnTo b k) := by
  induction k with
  | zero => rw [dnTo_zero]; exact hb
  | succ k ih =>
    have e : dnTo b (k + 1) = dnTo b k / 2 := by unfold dnTo; rw [Int.pow_succ, Int.ediv_ediv_of_nonneg (Int.le_of_lt (Int.pow_pos (by decide)))]
    rw [e]; unfold In at *; omega
theorem dnTo_succ (b : Int) (k : Nat) : dnTo b (k + 1) = dnTo b k / 2 := by unfold dnTo; rw [Int.pow_succ, Int.ediv_ediv_of_nonneg (Int.le_of_lt (Int.pow_pos (by decide)))]
theorem dnTo_end {b c : Int} (hc : In c) (k : Nat) (hk : k ≤ 64) (h1 : (k : Int) ≤ c ∨ k = 0) (h2 : c ≤ k ∨ k = 64) : dnTo b k = shr b c := by
  unfold In at hc
  rcases Int.lt_or_le c 0 with h | h
  · have : k = 0 := by omega
    subst this
    rw [dnTo_zero]; unfold shr; rw [if_pos h]
  · rw [shr_pw h (by omega)]; unfold dnTo pw
    rw [show min c.toNat 64 = k by omega]

theorem tmod2 {d : Int} (h : d < 0) : d.tmod 2 = -((-d) % 2) := by
  have := Int.neg_tmod (-d) 2
  rw [Int.neg_neg, Int.tmod_eq_emod_of_nonneg (a := -d) (by omega)] at this; exact this
theorem tdiv2 {d : Int} (h : d < 0) : d.tdiv 2 = -((-d) / 2) := by
  have := Int.neg_tdiv (-d) 2
  rw [Int.neg_neg, Int.tdiv_eq_ediv_of_nonneg (a := -d) (by omega)] at this; exact this
/-! ### by -/
def sz (n : Int) : Int := if n < 0 then -n else n
theorem tdiv_sz (b c : Int) : b.tdiv c = if (decide (b < 0) != decide (c < 0)) = true then -(sz b / sz c) else sz b / sz c := by
  unfold sz
  rcases Int.lt_or_le b 0 with h | h <;> rcases Int.lt_or_le c 0 with k | k
  · have d1 : decide (b < 0) = true := by simpa using h
    have d2 : decide (c < 0) = true := by simpa using k
    rw [d1, d2, if_pos h, if_pos k, if_neg (show ¬ (true != true) = true by decide)]
    obtain ⟨x, rfl⟩ : ∃ x, b = -x := ⟨-b, by omega⟩
    obtain ⟨y, rfl⟩ : ∃ y, c = -y := ⟨-c, by omega⟩
    rw [Int.neg_tdiv_neg, Int.neg_neg, Int.neg_neg, Int.tdiv_eq_ediv_of_nonneg (by omega)]
  · have d1 : decide (b < 0) = true := by simpa using h
    have d2 : decide (c < 0) = false := by simpa using k
    rw [d1, d2, if_pos h, if_neg (show ¬ c < 0 by omega), if_pos (show (true != false) = true by decide)]
    obtain ⟨x, rfl⟩ : ∃ x, b = -x := ⟨-b, by omega⟩
    rw [Int.neg_tdiv, Int.neg_neg, Int.tdiv_eq_ediv_of_nonneg (by omega)]
  · have d1 : decide (b < 0) = false := by simpa using h
    have d2 : decide (c < 0) = true := by simpa using k
    rw [d1, d2, if_neg (show ¬ b < 0 by omega), if_pos k, if_pos (show (false != true) = true by decide)]
    obtain ⟨y, rfl⟩ : ∃ y, c = -y := ⟨-c, by omega⟩
    rw [Int.tdiv_neg, Int.neg_neg, Int.tdiv_eq_ediv_of_nonneg h]
  · have d1 : decide (b < 0) = false := by simpa using h
    have d2 : decide (c < 0) = false := by simpa using k
    rw [d1, d2, if_neg (show ¬ b < 0 by omega), if_neg (show ¬ c < 0 by omega), if_neg (show ¬ (false != false) = true by decide), Int.tdiv_eq_ediv_of_nonneg h]
theorem quo_sz {b c : Int} (h : c ≠ 0) : ((!decide (b < 0) == decide (c < 0)) = true → quo b c = wrap64 (-(sz b / sz c))) ∧ ((!decide (b < 0) == decide (c < 0)) = false → quo b c = wrap64 (sz b / sz c)) := by
  have e := tdiv_sz b c
  have hq : quo b c = wrap64 (b.tdiv c) := by unfold quo; rw [if_neg h]
  rw [hq, e]
  cases decide (b < 0) <;> cases decide (c < 0) <;> simp
theorem sz_in {n : Int} (h : In n) : 0 ≤ sz n ∧ sz n ≤ 9223372036854775808 := by unfold In at h; unfold sz; split <;> omega

/-! ### bits -/
/-- The lowest k bits of x. -/
def low (x : BitVec 64) (k : Nat) : Nat := x.toNat % 2 ^ k
theorem low_zero (x : BitVec 64) : low x 0 = 0 := by unfold low; omega
theorem low_all (x : BitVec 64) : low x 64 = x.toNat := by unfold low; exact Nat.mod_eq_of_lt x.isLt
theorem low_lt (x : BitVec 64) (k : Nat) : low x k < 2 ^ k := Nat.mod_lt _ (Nat.pow_pos (by decide))
theorem low_succ (x : BitVec 64) (k : Nat) : low x (k + 1) = low x k ||| ((x.getLsbD k).toNat * 2 ^ k) := by
  apply Nat.eq_of_testBit_eq
  intro i
  unfold low
  rw [Nat.testBit_or, Nat.testBit_mod_two_pow, Nat.testBit_mod_two_pow, Nat.testBit_mul_two_pow]
  by_cases h : i < k
  · have h1 : i < k + 1 := by omega
    have h2 : ¬ k ≤ i := by omega
    simp [h, h1, h2]
  · by_cases h3 : i = k
    · subst h3
      simp [BitVec.testBit_toNat]
      cases x.getLsbD i <;> simp
    · have h1 : ¬ i < k + 1 := by omega
      have h4 : k ≤ i := by omega
      simp only [h, h1, decide_false, Bool.false_and, Bool.false_or, h4, decide_true, Bool.true_and]
      have : i - k ≠ 0 := by omega
      cases x.getLsbD k
      · simp
      · obtain ⟨m, hm⟩ : ∃ m, i - k = m + 1 := ⟨i - k - 1, by omega⟩
        rw [hm]; simp [Nat.testBit_succ]
theorem toNat_mod64 (z : Nat) (h : z < 18446744073709551616) : ((z : Int) % ((2 ^ 64 : Nat) : Int)).toNat = z := by omega
theorem u64_of (b : Int) : IntKind.u64.wrap b = ((BitVec.ofInt 64 b).toNat : Int) := by
  rw [IntKind.wrap_u64, BitVec.toNat_ofInt]; omega
theorem u64_nat (x : BitVec 64) : IntKind.u64.wrap (x.toNat : Int) = (x.toNat : Int) := by
  have := x.isLt; rw [IntKind.wrap_u64]; omega
theorem bits64 (op : BitVec 64) : IntKind.u64.wrap (op.toNat : Int) = (op.toNat : Int) := u64_nat op
theorem bit_at (x : BitVec 64) (k : Nat) : bits .and .u64 ((x.toNat : Int) / 2 ^ k) 1 = ((x.getLsbD k).toNat : Int) := by
  have e : ((x.toNat : Int) / 2 ^ k) = ((x.toNat / 2 ^ k : Nat) : Int) := by simp
  show IntKind.u64.wrap ((BitVec.ofInt 64 _ &&& BitVec.ofInt 64 1).toNat : Int) = _
  rw [u64_nat, e, BitVec.toNat_and, BitVec.toNat_ofInt, BitVec.toNat_ofInt]
  have h1 : x.toNat / 2 ^ k < 18446744073709551616 := Nat.lt_of_le_of_lt (Nat.div_le_self _ _) x.isLt
  rw [show ((1 : Int) % ((2 ^ 64 : Nat) : Int)).toNat = 1 by decide]
  rw [toNat_mod64 _ h1]
  rw [Nat.and_one_is_mod, ← Nat.shiftRight_eq_div_pow, BitVec.getLsbD, Nat.testBit, Nat.one_and_eq_mod_two]
  rcases Nat.mod_two_eq_zero_or_one (x.toNat >>> k) with h | h <;> rw [h] <;> rfl
theorem or_low (R : BitVec 64) (k t : Nat) (hk : k < 64) (ht : t = (R.getLsbD k).toNat) : bits .or .u64 (low R k : Int) (IntKind.u64.wrap ((t : Int) * 2 ^ k)) = ((low R (k + 1) : Nat) : Int) := by
  have hp : 2 ^ k < 2 ^ 64 := Nat.pow_lt_pow_right (by decide) hk
  have hl := low_lt R k
  have ht1 : t ≤ 1 := by subst ht; exact Bool.toNat_le _
  have hb : t * 2 ^ k < 18446744073709551616 := by
    have : t * 2 ^ k ≤ 1 * 2 ^ k := Nat.mul_le_mul_right _ ht1
    omega
  have e : ((t : Int) * 2 ^ k) = ((t * 2 ^ k : Nat) : Int) := by simp
  have e2 : IntKind.u64.wrap ((t : Int) * 2 ^ k) = ((t * 2 ^ k : Nat) : Int) := by rw [e, IntKind.wrap_u64]; omega
  rw [e2]
  show IntKind.u64.wrap ((BitVec.ofInt 64 _ ||| BitVec.ofInt 64 _).toNat : Int) = _
  rw [u64_nat, BitVec.toNat_or, BitVec.toNat_ofInt, BitVec.toNat_ofInt]
  rw [toNat_mod64 _ (by omega)]
  rw [toNat_mod64 _ hb]
  rw [low_succ, ht]
theorem i64_of_u64 (x : BitVec 64) : IntKind.i64.wrap (x.toNat : Int) = x.toInt := bv_toInt x
end Go.AluP
