/- Numbers as bytes, the lowest first. No program in sight. -/
import Derived.Test.YtilioiebecpknaaMem
namespace Go.BytesP
open Go.RowKit

/-- A number's lowest k bytes, the lowest first. -/
def le (n : Int) : Nat → List UInt8
  | 0 => []
  | k + 1 => UInt8.ofNat (n % 256).toNat :: le (n / 256) k
/-- The number that bytes are, the lowest first. -/
def val : List UInt8 → Nat
  | [] => 0
  | c :: l => c.toNat + 256 * val l
theorem length_le (n : Int) (k : Nat) : (le n k).length = k := by
  induction k generalizing n with
  | zero => rfl
  | succ k ih => simp [le, ih]
theorem val_lt (l : List UInt8) : val l < 256 ^ l.length := by
  induction l with
  | nil => simp [val]
  | cons c l ih =>
    have := c.toNat_lt
    simp only [val, List.length_cons, Nat.pow_succ]
    omega
theorem val_le (n : Int) (k : Nat) (h0 : 0 ≤ n) (h1 : n < 256 ^ k) : (val (le n k) : Int) = n := by
  induction k generalizing n with
  | zero => simp [le, val] at *; omega
  | succ k ih =>
    have e := ih (n / 256) (by omega) (by rw [Int.pow_succ] at h1; omega)
    simp only [le, val]
    rw [UInt8.toNat_ofNat']
    omega
theorem le_val (l : List UInt8) : le (val l) l.length = l := by
  induction l with
  | nil => rfl
  | cons c l ih =>
    have := c.toNat_lt
    simp only [val, List.length_cons, le]
    have e1 : ((c.toNat + 256 * val l : Nat) : Int) / 256 = (val l : Int) := by omega
    have e2 : (((c.toNat + 256 * val l : Nat) : Int) % 256).toNat = c.toNat := by omega
    rw [e1, e2, ih]
    simp

theorem val_append (a b : List UInt8) : val (a ++ b) = val a + 256 ^ a.length * val b := by
  induction a with
  | nil => simp [val]
  | cons c a ih => simp only [List.cons_append, val, ih, List.length_cons, Nat.pow_succ, Nat.mul_add]; rw [show 256 ^ a.length * 256 * val b = 256 * (256 ^ a.length * val b) by rw [Nat.mul_comm (256 ^ a.length) 256, Nat.mul_assoc]]; omega
theorem le_add (k : Nat) : ∀ (n m : Int), le (n + 256 ^ k * m) k = le n k := by
  induction k with
  | zero => intro n m; rfl
  | succ k ih =>
    intro n m
    have e : (256 : Int) ^ (k + 1) * m = 256 * (256 ^ k * m) := by rw [Int.pow_succ, Int.mul_comm (256 ^ k) 256, Int.mul_assoc]
    simp only [le, e]
    have e1 : (n + 256 * (256 ^ k * m)) % 256 = n % 256 := by omega
    have e2 : (n + 256 * (256 ^ k * m)) / 256 = n / 256 + 256 ^ k * m := by omega
    rw [e1, e2, ih]
theorem wrap_val_le (v : Int) (h1 : -9223372036854775808 ≤ v) (h2 : v ≤ 9223372036854775807) : wrap64 (val (le v 8)) = v := by
  by_cases h : 0 ≤ v
  · rw [val_le v 8 h (by omega)]
    unfold wrap64; omega
  · have e := le_add 8 v 1
    rw [← e, val_le _ 8 (by omega) (by omega)]
    unfold wrap64; omega
theorem le_one {k : Int} (h0 : 0 ≤ k) (h1 : k < 256) : le k 1 = [UInt8.ofNat k.toNat] := by
  simp only [le]; rw [Int.emod_eq_of_lt h0 h1]
theorem le_get (k : Nat) : ∀ (m : Nat) (n : Int), k < m → (le n m)[k]? = some (UInt8.ofNat (n / 256 ^ k % 256).toNat) := by
  induction k with
  | zero =>
    intro m n h
    obtain ⟨m, rfl⟩ : ∃ j, m = j + 1 := ⟨m - 1, by omega⟩
    simp [le]
  | succ k ih =>
    intro m n h
    obtain ⟨m, rfl⟩ : ∃ j, m = j + 1 := ⟨m - 1, by omega⟩
    simp only [le, List.getElem?_cons_succ]
    rw [ih m (n / 256) (by omega), Int.pow_succ, Int.mul_comm, ← Int.ediv_ediv_of_nonneg (by decide)]
theorem le_take (k : Nat) : ∀ (m : Nat) (n : Int), k ≤ m → (le n m).take k = le n k := by
  induction k with
  | zero => intro m n h; rfl
  | succ k ih =>
    intro m n h
    obtain ⟨m, rfl⟩ : ∃ j, m = j + 1 := ⟨m - 1, by omega⟩
    simp only [le, List.take_succ_cons]
    rw [ih m (n / 256) (by omega)]
theorem le_snoc (k : Nat) : ∀ (n : Int), le n (k + 1) = le n k ++ [UInt8.ofNat (n / 256 ^ k % 256).toNat] := by
  induction k with
  | zero => intro n; simp [le]
  | succ k ih =>
    intro n
    rw [le, ih (n / 256), le, Int.pow_succ, Int.mul_comm, ← Int.ediv_ediv_of_nonneg (by decide)]
    rfl
/-- A byte of a number, as the shift reads it. -/
theorem byte_shift (n : Int) (k : Nat) : (((UInt8.ofNat (n / 256 ^ k % 256).toNat).toNat : Nat) : Int) = (n / 2 ^ (8 * k)) % 256 := by
  rw [UInt8.toNat_ofNat', Int.pow_mul]
  show (((n / 256 ^ k % 256).toNat % 256 : Nat) : Int) = n / 256 ^ k % 256
  omega
/-- A small number as a byte. -/
theorem bv_small {n : Int} (h0 : 0 ≤ n) (h1 : n ≤ 255) : Value.int .u8 n = Fb.bv (UInt8.ofNat n.toNat) := by
  unfold Fb.bv; rw [UInt8.toNat_ofNat']; congr 1; omega
theorem le_u64 (v : Int) : le (IntKind.u64.wrap v) 8 = le v 8 := by
  rw [IntKind.wrap_u64]
  have e : v % 18446744073709551616 = v + 256 ^ 8 * (-(v / 18446744073709551616)) := by
    have := Int.mul_ediv_add_emod v 18446744073709551616; omega
  rw [e, le_add]
theorem toNat64 (z : Nat) (h : z < 18446744073709551616) : ((z : Int) % ((2 ^ 64 : Nat) : Int)).toNat = z := by omega
/-- One byte more of a number that is read. -/
theorem or_byte {a k c : Nat} (ha : a < 256 ^ k) (hk : k < 8) (hc : c < 256) : bits .or .u64 (a : Int) (IntKind.u64.wrap ((c : Int) * 2 ^ (8 * k))) = ((a + 256 ^ k * c : Nat) : Int) := by
  have hp : 2 ^ (8 * k) = 256 ^ k := by rw [Nat.pow_mul]
  have hp2 : 256 ^ k ≤ 256 ^ 7 := Nat.pow_le_pow_right (by decide) (by omega)
  have hb : c * 256 ^ k ≤ 255 * 256 ^ k := Nat.mul_le_mul_right _ (by omega)
  have e : ((c : Int) * 2 ^ (8 * k)) = ((c * 256 ^ k : Nat) : Int) := by rw [← hp]; simp
  have e2 : IntKind.u64.wrap ((c : Int) * 2 ^ (8 * k)) = ((c * 256 ^ k : Nat) : Int) := by rw [e, IntKind.wrap_u64]; omega
  rw [e2]
  show IntKind.u64.wrap ((BitVec.ofInt 64 _ ||| BitVec.ofInt 64 _).toNat : Int) = _
  rw [BitVec.toNat_or, BitVec.toNat_ofInt, BitVec.toNat_ofInt, toNat64 _ (by omega), toNat64 _ (by omega)]
  have h3 : a ||| c * 256 ^ k = a + 256 ^ k * c := by
    rw [← hp] at ha ⊢
    have := Nat.shiftLeft_add_eq_or_of_lt (b := a) (i := 8 * k) ha c
    rw [Nat.shiftLeft_eq] at this
    rw [Nat.or_comm, ← this, Nat.mul_comm]; omega
  rw [h3, IntKind.wrap_u64, Nat.mul_comm]
  omega
theorem val_zeros (x : List UInt8) (z : Nat) : val (x ++ List.replicate z 0) = val x := by
  rw [val_append]
  have : val (List.replicate z (0 : UInt8)) = 0 := by
    induction z with
    | zero => rfl
    | succ z ih => simp [List.replicate_succ, val, ih]
  rw [this]; omega
theorem val_snoc (x : List UInt8) (c : UInt8) : val (x ++ [c]) = val x + 256 ^ x.length * c.toNat := by rw [val_append]; simp [val]
theorem u64_byte (c : UInt8) : IntKind.u64.wrap (c.toNat : Int) = (c.toNat : Int) := by have := c.toNat_lt; rw [IntKind.wrap_u64]; omega
theorem u8_byte (c : UInt8) : IntKind.u8.wrap (c.toNat : Int) = (c.toNat : Int) := by have := c.toNat_lt; rw [IntKind.wrap_u8]; omega
end Go.BytesP
