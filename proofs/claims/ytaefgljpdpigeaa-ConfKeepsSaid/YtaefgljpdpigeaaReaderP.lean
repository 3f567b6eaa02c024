/- The reference's reader, plainly: bytes read from the left; the first thing that is wrong stays. No program in sight. -/
import Derived.Test.YtaefgljpdpigeaaBytesP
namespace Go.ReaderP
open Go.RowKit Go.BytesP

/-- Where a reader stands: what was wrong first, and where; or the place. -/
abbrev St := Except (Int × Int) Nat
/-- A number of so many bytes. -/
def numV (b : List UInt8) (p m : Nat) : Nat := val ((b.drop p).take m)
def rNum (b : List UInt8) (s : St) (m : Nat) : Nat × St :=
  match s with
  | .error e => (0, .error e)
  | .ok p => if b.length < p + m then (0, .error (5, b.length)) else (numV b p m, .ok (p + m))
/-- .. which must be from least to most. -/
def rInt (b : List UInt8) (s : St) (m : Nat) (least most low high : Int) : Int × St :=
  match s with
  | .error e => (0, .error e)
  | .ok p => if b.length < p + m then (0, .error (5, b.length))
    else ((numV b p m : Int), if (numV b p m : Int) < least then .error (low, p) else if most < (numV b p m : Int) then .error (high, p) else .ok (p + m))
/-- Bytes that must come. -/
def rMark (b : List UInt8) : St → List UInt8 → St
  | s, [] => s
  | .error e, _ :: l => rMark b (.error e) l
  | .ok p, c :: l => rMark b (if b.length < p + 1 then .error (5, b.length) else if numV b p 1 = c.toNat then .ok (p + 1) else .error (4, p)) l
theorem rMark_error (b : List UInt8) (e : Int × Int) (l : List UInt8) : rMark b (.error e) l = .error e := by
  induction l with
  | nil => rfl
  | cons c l ih => exact ih
theorem numV_lt (b : List UInt8) (p m : Nat) : numV b p m < 256 ^ m := by
  have := val_lt ((b.drop p).take m)
  have h2 : ((b.drop p).take m).length ≤ m := List.length_take_le _ _
  exact Nat.lt_of_lt_of_le this (Nat.pow_le_pow_right (by decide) h2)
theorem numV_one {b : List UInt8} {p : Nat} (h : p < b.length) : numV b p 1 = b[p].toNat := by
  unfold numV
  rw [List.drop_eq_getElem_cons h, List.take_succ_cons, List.take_zero]; simp [val]
theorem numV_snoc {b : List UInt8} {p m : Nat} (h : p + m < b.length) : numV b p (m + 1) = numV b p m + 256 ^ m * b[p + m].toNat := by
  unfold numV
  have hl : m < (b.drop p).length := by rw [List.length_drop]; omega
  have h2 : ((b.drop p).take m).length = m := by rw [List.length_take]; omega
  rw [List.take_succ_eq_append_getElem hl, val_snoc, h2, List.getElem_drop]
end Go.ReaderP
