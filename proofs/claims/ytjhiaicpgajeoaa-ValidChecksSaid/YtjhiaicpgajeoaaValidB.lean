/- Sets of locks as numbers of kind int (layer 8). -/
import Derived.Test.YtjhiaicpgajeoaaValidN
namespace Go.Proofs.Ytjhiaicpgajeoaa.Valid
open Go.RowKit Go.Fb Go.BytesP Go.CodeP Go.ValidP
set_option linter.unusedVariables false
theorem pow_i64 {k : Int} (h0 : 0 ≤ k) (h8 : k < 8) : IntKind.i64.wrap (2 ^ k.toNat) = ((2 ^ k.toNat : Nat) : Int) := by
  obtain ⟨j, rfl⟩ : ∃ j : Nat, k = j := ⟨k.toNat, by omega⟩
  have hj : j < 8 := by omega
  rw [Int.toNat_natCast]
  exact (by decide +kernel : ∀ j < 8, IntKind.i64.wrap (2 ^ j) = ((2 ^ j : Nat) : Int)) j hj
theorem iwrap_nat {n : Nat} (h : n < 9223372036854775808) : IntKind.i64.wrap (n : Int) = n := by rw [IntKind.wrap_i64]; omega
theorem ibits_or {h : Nat} {k : Int} (hh : h < 256) (h0 : 0 ≤ k) (h8 : k < 8) : bits BinOp.or IntKind.i64 (h : Int) (IntKind.i64.wrap (2 ^ k.toNat)) = ((lockB h k.toNat : Nat) : Int) := by
  rw [pow_i64 h0 h8]
  have hj : k.toNat < 8 := by omega
  have e := (by decide +kernel : ∀ h < 256, ∀ j < 8, (BitVec.ofNat 64 h ||| BitVec.ofNat 64 (2 ^ j)).toNat = lockB h j ∧ lockB h j < 256) h hh _ hj
  show IntKind.i64.wrap ((BitVec.ofInt 64 (h : Int) ||| BitVec.ofInt 64 ((2 ^ k.toNat : Nat) : Int)).toNat : Int) = _
  rw [BitVec.ofInt_natCast, BitVec.ofInt_natCast, e.1, iwrap_nat (by omega)]
theorem ibits_andNot {h : Nat} {k : Int} (hh : h < 256) (h0 : 0 ≤ k) (h8 : k < 8) : bits BinOp.andNot IntKind.i64 (h : Int) (IntKind.i64.wrap (2 ^ k.toNat)) = ((unlockB h k.toNat : Nat) : Int) := by
  rw [pow_i64 h0 h8]
  have hj : k.toNat < 8 := by omega
  have e := (by decide +kernel : ∀ h < 256, ∀ j < 8, (BitVec.ofNat 64 h &&& ~~~(BitVec.ofNat 64 (2 ^ j))).toNat = unlockB h j ∧ unlockB h j < 256) h hh _ hj
  show IntKind.i64.wrap ((BitVec.ofInt 64 (h : Int) &&& ~~~(BitVec.ofInt 64 ((2 ^ k.toNat : Nat) : Int))).toNat : Int) = _
  rw [BitVec.ofInt_natCast, BitVec.ofInt_natCast, e.1, iwrap_nat (by omega)]
theorem shr_int {h : Nat} {k : Int} (h0 : 0 ≤ k) : (h : Int) / 2 ^ k.toNat = ((h >>> k.toNat : Nat) : Int) := by
  rw [Nat.shiftRight_eq_div_pow]
  simp
theorem ibits_and1 {h : Nat} (hh : h < 256) : bits BinOp.and IntKind.i64 (h : Int) 1 = ((h % 2 : Nat) : Int) := by
  have e := (by decide +kernel : ∀ h < 256, (BitVec.ofNat 64 h &&& BitVec.ofNat 64 1).toNat = h % 2) h hh
  show IntKind.i64.wrap ((BitVec.ofInt 64 (h : Int) &&& BitVec.ofInt 64 ((1 : Nat) : Int)).toNat : Int) = _
  rw [BitVec.ofInt_natCast, BitVec.ofInt_natCast, e, iwrap_nat (by omega)]
theorem w64 (x : Int) : wrap64 x = IntKind.i64.wrap x := by rw [IntKind.wrap_i64]; unfold wrap64; omega
theorem jbits_or {h : Nat} {k : Int} (hh : h < 256) (h0 : 0 ≤ k) (h8 : k < 8) : bits BinOp.or IntKind.i64 (h : Int) (wrap64 (2 ^ k.toNat)) = ((lockB h k.toNat : Nat) : Int) := by
  rw [w64]; exact ibits_or hh h0 h8
theorem jbits_andNot {h : Nat} {k : Int} (hh : h < 256) (h0 : 0 ≤ k) (h8 : k < 8) : bits BinOp.andNot IntKind.i64 (h : Int) (wrap64 (2 ^ k.toNat)) = ((unlockB h k.toNat : Nat) : Int) := by
  rw [w64]; exact ibits_andNot hh h0 h8
end Go.Proofs.Ytjhiaicpgajeoaa.Valid
