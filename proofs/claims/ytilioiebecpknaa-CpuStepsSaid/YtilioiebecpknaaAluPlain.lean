/- Plain arithmetic of int64 instructions: what the walk of package alu computes, and its laws. No program in sight. -/
import Derived.WalkKit
import Derived.IntWalk
namespace Go.AluP
open Go.RowKit

/-- b by c, rounded towards 0, wrapped; 0 by 0. -/
def quo (b c : Int) : Int := if c = 0 then 0 else wrap64 (b.tdiv c)
def shl (b c : Int) : Int := if c < 0 then b else wrap64 (b * 2 ^ min (IntKind.u64.wrap c).toNat 64)
def shr (b c : Int) : Int := if c < 0 then b else b / 2 ^ min (IntKind.u64.wrap c).toNat 64
def one (x : Bool) : Int := if x = true then 1 else 0
/-- What the instruction 'op' makes of two numbers. -/
def val (op b c : Int) : Int :=
  if op = 3 then wrap64 (b + c) else if op = 4 then wrap64 (b - c) else if op = 5 then wrap64 (b * c)
  else if op = 6 then quo b c else if op = 7 then wrap64 (b - wrap64 (quo b c * c))
  else if op = 8 then bits .and .i64 b c else if op = 9 then bits .or .i64 b c else if op = 10 then bits .xor .i64 b c
  else if op = 11 then shl b c else if op = 12 then shr b c
  else if op = 13 then one (decide (b < c)) else if op = 14 then one (b == c) else 0
def err (op : Int) : Int := if 3 ≤ op ∧ op ≤ 14 then 0 else 9
theorem val_else {op b c : Int} (h : op < 3 ∨ 14 < op) : val op b c = 0 := by
  unfold val
  rw [if_neg (by omega), if_neg (by omega), if_neg (by omega), if_neg (by omega), if_neg (by omega), if_neg (by omega), if_neg (by omega), if_neg (by omega), if_neg (by omega), if_neg (by omega), if_neg (by omega), if_neg (by omega)]
theorem err_else {op : Int} (h : op < 3 ∨ 14 < op) : err op = 9 := by unfold err; rw [if_neg (by omega)]

def In (n : Int) : Prop := -9223372036854775808 ≤ n ∧ n ≤ 9223372036854775807
theorem in_of_wf {n : Int} (h : (Lit.int .i64 n).wf = true) : In n := by
  simp only [Lit.wf, IntKind.min, IntKind.max, IntKind.signed, IntKind.bits, Bool.and_eq_true, decide_eq_true_eq, if_true] at h
  unfold In; omega
theorem wf_of_in {n : Int} (h : In n) : (Lit.int .i64 n).wf = true := WalkArith.wf_i64 h
theorem wrap_in (n : Int) : In (wrap64 n) := by unfold In wrap64; omega
theorem wrap_id {n : Int} (h : In n) : wrap64 n = n := by unfold In at h; unfold wrap64; omega

/-! ### bits -/
theorem nat_and_or (a b : Nat) : (a &&& b) + (a ||| b) = a + b := by
  induction a using Nat.strongRecOn generalizing b with
  | _ a ih =>
    by_cases h : a = 0
    · subst h; simp
    · have e := ih (a / 2) (by omega) (b / 2)
      have h1 := Nat.div_add_mod (a &&& b) 2
      have h2 := Nat.div_add_mod (a ||| b) 2
      rw [Nat.and_div_two] at h1
      rw [Nat.or_div_two] at h2
      have p := @Nat.and_mod_two_eq_one a b
      have q := @Nat.or_mod_two_eq_one a b
      omega
theorem nat_and_xor (a b : Nat) : (a &&& b) + (a ^^^ b) = (a ||| b) := by
  induction a using Nat.strongRecOn generalizing b with
  | _ a ih =>
    by_cases h : a = 0
    · subst h; simp
    · have e := ih (a / 2) (by omega) (b / 2)
      have h1 := Nat.div_add_mod (a &&& b) 2
      have h2 := Nat.div_add_mod (a ||| b) 2
      have h3 := Nat.div_add_mod (a ^^^ b) 2
      rw [Nat.and_div_two] at h1
      rw [Nat.or_div_two] at h2
      rw [Nat.xor_div_two] at h3
      have m1 : (a &&& b) % 2 + (a ^^^ b) % 2 = (a ||| b) % 2 := by
        have p := @Nat.and_mod_two_eq_one a b
        have q := @Nat.or_mod_two_eq_one a b
        have r := @Nat.xor_mod_two_eq_one a b
        omega
      omega

theorem bv_toInt (x : BitVec 64) : IntKind.i64.wrap x.toNat = x.toInt := by
  have := x.isLt
  rw [IntKind.wrap_i64, BitVec.toInt_eq_toNat_cond]; split <;> omega
theorem bits_and (b c : Int) : bits .and .i64 b c = (BitVec.ofInt 64 b &&& BitVec.ofInt 64 c).toInt := bv_toInt _
theorem bits_or (b c : Int) : bits .or .i64 b c = (BitVec.ofInt 64 b ||| BitVec.ofInt 64 c).toInt := bv_toInt _
theorem bits_xor (b c : Int) : bits .xor .i64 b c = (BitVec.ofInt 64 b ^^^ BitVec.ofInt 64 c).toInt := bv_toInt _
theorem bv_in (x : BitVec 64) : In x.toInt := by unfold In; have := x.isLt; rw [BitVec.toInt_eq_toNat_cond]; split <;> omega
theorem of_toInt (x : BitVec 64) : BitVec.ofInt 64 x.toInt = x := BitVec.ofInt_toInt
theorem toInt_of {n : Int} (h : In n) : (BitVec.ofInt 64 n).toInt = n := by
  unfold In at h; rw [BitVec.toInt_ofInt]; simp only [Int.bmod]; omega
theorem wrap_toInt_add (x y : BitVec 64) : wrap64 (x.toInt + y.toInt) = (x + y).toInt := by
  rw [BitVec.toInt_add]; unfold wrap64; simp only [Int.bmod]; omega
theorem wrap_toInt_sub (x y : BitVec 64) : wrap64 (x.toInt - y.toInt) = (x - y).toInt := by
  rw [BitVec.toInt_sub]; unfold wrap64; simp only [Int.bmod]; omega
theorem bv_and_or (x y : BitVec 64) : (x &&& y) + (x ||| y) = x + y := by
  apply BitVec.eq_of_toNat_eq
  rw [BitVec.toNat_add, BitVec.toNat_add, BitVec.toNat_and, BitVec.toNat_or, nat_and_or]
theorem bv_or_sub (x y : BitVec 64) : (x ||| y) - (x &&& y) = x ^^^ y := by
  have h : (x ||| y) = (x &&& y) + (x ^^^ y) := by
    apply BitVec.eq_of_toNat_eq
    have h1 := (x ||| y).isLt
    rw [BitVec.toNat_add, BitVec.toNat_and, BitVec.toNat_or, BitVec.toNat_xor, nat_and_xor]
    rw [BitVec.toNat_or] at h1
    exact (Nat.mod_eq_of_lt h1).symm
  rw [h, BitVec.add_comm, BitVec.add_sub_cancel]

theorem xor_xor {b c : Int} (hb : In b) : bits .xor .i64 (bits .xor .i64 b c) c = b := by
  rw [bits_xor, bits_xor, of_toInt, BitVec.xor_assoc, BitVec.xor_self, BitVec.xor_zero, toInt_of hb]
theorem and_or {b c : Int} (hb : In b) (hc : In c) : wrap64 (bits .and .i64 b c + bits .or .i64 b c) = wrap64 (b + c) := by
  rw [bits_and, bits_or, wrap_toInt_add, bv_and_or, ← wrap_toInt_add, toInt_of hb, toInt_of hc]
theorem or_sub_and {b c : Int} : wrap64 (bits .or .i64 b c - bits .and .i64 b c) = bits .xor .i64 b c := by
  rw [bits_and, bits_or, bits_xor, wrap_toInt_sub, bv_or_sub]

/-! ### AluFollows -/
theorem val3 (b c : Int) : val 3 b c = wrap64 (b + c) := rfl
theorem val4 (b c : Int) : val 4 b c = wrap64 (b - c) := rfl
theorem val5 (b c : Int) : val 5 b c = wrap64 (b * c) := rfl
theorem val6 (b c : Int) : val 6 b c = quo b c := rfl
theorem val7 (b c : Int) : val 7 b c = wrap64 (b - wrap64 (quo b c * c)) := rfl
theorem val8 (b c : Int) : val 8 b c = bits .and .i64 b c := rfl
theorem val9 (b c : Int) : val 9 b c = bits .or .i64 b c := rfl
theorem val10 (b c : Int) : val 10 b c = bits .xor .i64 b c := rfl
theorem val11 (b c : Int) : val 11 b c = shl b c := rfl
theorem val12 (b c : Int) : val 12 b c = shr b c := rfl
theorem val13 (b c : Int) : val 13 b c = one (decide (b < c)) := rfl
theorem val14 (b c : Int) : val 14 b c = one (b == c) := rfl
theorem add_sub {b c : Int} (hb : In b) : val 4 (val 3 b c) c = b := by rw [val4, val3]; unfold In at hb; unfold wrap64; omega
theorem sub_add {b c : Int} (hb : In b) : val 3 (val 4 b c) c = b := by rw [val4, val3]; unfold In at hb; unfold wrap64; omega
theorem quo_rem {b c : Int} (hb : In b) : val 3 (val 5 (val 6 b c) c) (val 7 b c) = b := by
  rw [val7, val6, val5, val3]
  generalize wrap64 (quo b c * c) = m
  unfold In at hb; unfold wrap64; omega
theorem rem_eq {b c : Int} (hb : In b) (hc : c ≠ 0) : val 7 b c = b.tmod c := by
  have h := Int.mul_tdiv_add_tmod b c
  rw [val7]
  unfold quo
  rw [if_neg hc]
  have hr : In (b.tmod c) := by
    unfold In at *
    have h1 := Int.natAbs_tmod b c
    have h2 := Nat.mod_le b.natAbs c.natAbs
    have h3 : 0 ≤ b → 0 ≤ b.tmod c := fun h0 => Int.tmod_nonneg c h0
    have h4 : b < 0 → b.tmod c ≤ 0 := fun h0 => by
      have h1 := Int.tmod_nonneg c (a := -b) (by omega)
      rw [Int.neg_tmod] at h1; omega
    omega
  have key : wrap64 (wrap64 (b.tdiv c) * c) = wrap64 (b - b.tmod c) := by
    have e : b - b.tmod c = b.tdiv c * c := by rw [Int.mul_comm]; omega
    rw [e]
    unfold wrap64
    have : ((b.tdiv c + 9223372036854775808) % 18446744073709551616 - 9223372036854775808) * c = b.tdiv c * c - 18446744073709551616 * ((b.tdiv c + 9223372036854775808) / 18446744073709551616 * c) := by
      have h1 := Int.emod_def (b.tdiv c + 9223372036854775808) 18446744073709551616
      rw [h1, ← Int.mul_assoc, ← Int.sub_mul]
      congr 1; omega
    rw [this]
    omega
  rw [key]
  unfold In at *
  unfold wrap64
  omega
theorem rem_sign {b c : Int} (hb : In b) (hc : c ≠ 0) : (0 ≤ b → 0 ≤ val 7 b c) ∧ (b < 0 → val 7 b c ≤ 0) := by
  rw [rem_eq hb hc]
  refine ⟨fun h => Int.tmod_nonneg c h, fun h => ?_⟩
  have h1 := Int.tmod_nonneg c (a := -b) (by omega)
  rw [Int.neg_tmod] at h1
  omega
theorem rem_size {b c : Int} (hb : In b) (hc : c ≠ 0) : (0 < c → val 7 b c < c ∧ -c < val 7 b c) ∧ (c < 0 → val 7 b c < -c ∧ c < val 7 b c) := by
  rw [rem_eq hb hc]
  refine ⟨fun h => ?_, fun h => ?_⟩
  · have h1 := Int.tmod_lt_of_pos b h
    have h2 := Int.tmod_lt_of_pos (-b) h
    rw [Int.neg_tmod] at h2
    omega
  · have h1 := Int.tmod_lt_of_pos b (b := -c) (by omega)
    have h2 := Int.tmod_lt_of_pos (-b) (b := -c) (by omega)
    rw [Int.neg_tmod] at h2
    rw [Int.tmod_neg] at h1 h2
    omega
theorem val7_in (b c : Int) : In (val 7 b c) := by rw [val7]; exact wrap_in _
theorem xor_back {b c : Int} (hb : In b) : val 10 (val 10 b c) c = b := xor_xor hb
theorem and_or' {b c : Int} (hb : In b) (hc : In c) : val 3 (val 8 b c) (val 9 b c) = val 3 b c := and_or hb hc
theorem or_and' {b c : Int} : val 4 (val 9 b c) (val 8 b c) = val 10 b c := or_sub_and
end Go.AluP
