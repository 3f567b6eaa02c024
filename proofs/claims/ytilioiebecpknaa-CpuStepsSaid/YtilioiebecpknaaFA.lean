/- Rounding, plainly: what the reference of layer 5 reckons, beside the model's own floats. No program in sight. -/
import Derived.Laws.FloatArith
namespace Go.FltP
open Ieee
set_option linter.unusedVariables false
def infR : Nat := 2047 * 2 ^ 52
/-- A number without its lowest digits, rounded: to the nearest, between two to the even one; more: something is left over. -/
def rndQ (m off : Nat) (more : Bool) : Nat :=
  if 2 ^ (off - 1) < m % 2 ^ off ∨ (m % 2 ^ off = 2 ^ (off - 1) ∧ (more = true ∨ m / 2 ^ off % 2 = 1)) then m / 2 ^ off + 1 else m / 2 ^ off
def offOf (m : Nat) (e : Int) : Int := max ((Nat.log2 m : Int) - 52) (-1074 - e)
def qOf (m : Nat) (e : Int) (more : Bool) : Nat := if offOf m e ≤ 0 then m * 2 ^ (-(offOf m e)).toNat else rndQ m (offOf m e).toNat more
/-- The rung of m times 2^e. -/
def rnd (m : Nat) (e : Int) (more : Bool) : Nat :=
  if m = 0 then 0 else if qOf m e more < 2 ^ 52 then qOf m e more
  else if 2047 ≤ e + offOf m e + 1075 then infR else min ((e + offOf m e + 1075).toNat * 2 ^ 52 + (qOf m e more - 2 ^ 52)) infR
theorem rndQ_ge (m off : Nat) (more : Bool) : m / 2 ^ off ≤ rndQ m off more := by
  unfold rndQ
  split <;> omega
theorem pow_pos (k : Nat) : 0 < 2 ^ k := Nat.pow_pos (by decide)
theorem cut_even (neg : Bool) (n drop : Nat) : Toward.even.cut neg n drop = if drop = 0 then n else rndQ n drop false := by
  have hlt := Nat.lt_log2_self (n := n)
  unfold Toward.cut
  simp only [Nat.one_shiftLeft]
  by_cases hd : drop ≤ n.log2 + 2
  · rw [Nat.min_eq_left hd]
    cases drop with
    | zero => simp [Nat.mod_one]
    | succ d =>
      rw [if_neg (by omega)]
      unfold rndQ
      have e1 : 2 ^ (d + 1) = 2 * 2 ^ d := by rw [Nat.pow_succ]; omega
      have e2 : d + 1 - 1 = d := by omega
      rw [e2]
      by_cases h1 : 2 ^ d < n % 2 ^ (d + 1)
      · rw [if_pos (.inl h1)]
        have : decide (2 ^ (d + 1) < 2 * (n % 2 ^ (d + 1))) = true := by rw [decide_eq_true_eq]; omega
        rw [this]; rfl
      · have g1 : decide (2 ^ (d + 1) < 2 * (n % 2 ^ (d + 1))) = false := by rw [decide_eq_false_iff_not]; omega
        rw [g1]
        by_cases h2 : n % 2 ^ (d + 1) = 2 ^ d ∧ n / 2 ^ (d + 1) % 2 = 1
        · rw [if_pos (.inr ⟨h2.1, .inr h2.2⟩)]
          have g2 : (2 ^ (d + 1) == 2 * (n % 2 ^ (d + 1))) = true := by rw [beq_iff_eq, h2.1]; omega
          have g3 : (n / 2 ^ (d + 1) % 2 == 1) = true := by rw [beq_iff_eq]; exact h2.2
          rw [g2, g3]; rfl
        · rw [if_neg (by
            rintro (h | ⟨h, h' | h'⟩)
            · exact h1 h
            · cases h'
            · exact h2 ⟨h, h'⟩)]
          have g2 : ((2 ^ (d + 1) == 2 * (n % 2 ^ (d + 1))) && (n / 2 ^ (d + 1) % 2 == 1)) = false := by
            rw [Bool.and_eq_false_iff]
            by_cases h3 : n % 2 ^ (d + 1) = 2 ^ d
            · right
              rw [beq_eq_false_iff_ne]
              exact fun h => h2 ⟨h3, h⟩
            · left
              rw [beq_eq_false_iff_ne]
              omega
          rw [g2]; rfl
  · have hm : min drop (n.log2 + 2) = n.log2 + 2 := Nat.min_eq_right (by omega)
    rw [hm, if_neg (by omega)]
    have e1 : 2 ^ (n.log2 + 2) = 2 * 2 ^ (n.log2 + 1) := by rw [Nat.pow_succ]; omega
    have e2 : n / 2 ^ (n.log2 + 2) = 0 := Nat.div_eq_of_lt (by omega)
    have e3 : n % 2 ^ (n.log2 + 2) = n := Nat.mod_eq_of_lt (by omega)
    have hp : 2 ^ (n.log2 + 2) ≤ 2 ^ (drop - 1) := Nat.pow_le_pow_right (by decide) (by omega)
    have hp2 : 2 ^ (drop - 1) ≤ 2 ^ drop := Nat.pow_le_pow_right (by decide) (by omega)
    rw [e2, e3]
    unfold rndQ
    have hn2 : n < 2 ^ drop := by omega
    have hn3 : ¬ 2 ^ (drop - 1) < n := by omega
    have hn4 : ¬ n = 2 ^ (drop - 1) := by omega
    rw [Nat.div_eq_of_lt hn2, Nat.mod_eq_of_lt hn2, if_neg (by rintro (h | ⟨h, -⟩); exact hn3 h; exact hn4 h)]
    have g1 : decide (2 ^ (n.log2 + 2) < 2 * n) = false := by rw [decide_eq_false_iff_not]; omega
    have g2 : (2 ^ (n.log2 + 2) == 2 * n) = false := by rw [beq_eq_false_iff_ne]; omega
    rw [g1, g2]; rfl
theorem qOf_big {m : Nat} (hm : m ≠ 0) {e : Int} {more : Bool} (h : -1074 < e + offOf m e) : 2 ^ 52 ≤ qOf m e more := by
  have ho : offOf m e = (Nat.log2 m : Int) - 52 := by unfold offOf at *; omega
  have hlog : 2 ^ m.log2 ≤ m := Nat.log2_self_le hm
  unfold qOf
  by_cases c : offOf m e ≤ 0
  · rw [if_pos c]
    have h1 : (-(offOf m e)).toNat = 52 - m.log2 := by omega
    have h2 : m.log2 ≤ 52 := by omega
    rw [h1]
    calc 2 ^ 52 = 2 ^ m.log2 * 2 ^ (52 - m.log2) := by rw [← Nat.pow_add]; congr 1; omega
      _ ≤ m * 2 ^ (52 - m.log2) := Nat.mul_le_mul_right _ hlog
  · rw [if_neg c]
    refine Nat.le_trans ?_ (rndQ_ge m _ more)
    have h1 : (offOf m e).toNat = m.log2 - 52 := by omega
    rw [h1, Nat.le_div_iff_mul_le (pow_pos _), ← Nat.pow_add]
    have h2 : 52 + (m.log2 - 52) = m.log2 := by omega
    rw [h2]; exact hlog
theorem final_rung (q B I : Nat) (x : Int) (hx : -1074 ≤ x) (hB : 0 < B) (hI : I = 2047 * B) (hbig : -1074 < x → B ≤ q) :
    min ((x - -1074).toNat * B + q) I = (if q < B then q else if 2047 ≤ x + 1075 then I else min ((x + 1075).toNat * B + (q - B)) I) := by
  by_cases hq : q < B
  · rw [if_pos hq]
    have h0 : ¬ -1074 < x := fun h => by have := hbig h; omega
    have h1 : (x - -1074).toNat = 0 := by omega
    rw [h1, Nat.zero_mul, Nat.zero_add]
    omega
  · rw [if_neg hq]
    obtain ⟨k, hk⟩ : ∃ k : Nat, x + 1074 = k := ⟨(x + 1074).toNat, by omega⟩
    have h1 : (x - -1074).toNat = k := by omega
    have h2 : (x + 1075).toNat = k + 1 := by omega
    rw [h1, h2]
    by_cases hb : 2047 ≤ x + 1075
    · rw [if_pos hb]
      have : 2046 * B ≤ k * B := Nat.mul_le_mul_right _ (by omega)
      omega
    · rw [if_neg hb, Nat.add_mul]
      omega
theorem nearest_rnd (neg : Bool) (m : Nat) (e : Int) : double.nearest neg m e = double.word neg (rnd m e false) := by
  unfold Format.nearest rnd
  by_cases hm : m = 0
  · rw [if_pos hm, if_pos hm]
  rw [if_neg hm, if_neg hm]
  have hlp : double.leastPlace = -1074 := by decide
  have hfb : (double.fractionBits : Int) = 52 := rfl
  have hbin : double.binade = 2 ^ 52 := rfl
  have hinf : double.infRung = infR := by decide
  simp only [hlp, hfb, hbin, hinf]
  have hlast : max (e + (m.log2 : Int) - 52) (-1074) = e + offOf m e := by unfold offOf; omega
  rw [hlast, cut_even]
  have hk : (if (e + offOf m e - e).toNat = 0 then m <<< (e - (e + offOf m e)).toNat else rndQ (m <<< (e - (e + offOf m e)).toNat) (e + offOf m e - e).toNat false) = qOf m e false := by
    unfold qOf
    by_cases c : offOf m e ≤ 0
    · rw [if_pos (by omega), if_pos c, Nat.shiftLeft_eq]
      congr 2
      omega
    · rw [if_neg (by omega), if_neg c]
      have h1 : (e - (e + offOf m e)).toNat = 0 := by omega
      have h2 : (e + offOf m e - e).toNat = (offOf m e).toNat := by omega
      rw [h1, h2]; rfl
  rw [hk]
  congr 1
  have hlow : -1074 ≤ e + offOf m e := by unfold offOf; omega
  have hbig := fun h => qOf_big hm (more := false) (e := e) h
  have hinf2 : infR = 2047 * 2 ^ 52 := rfl
  generalize qOf m e false = q at *
  generalize infR = I at *
  have hB : 0 < 2 ^ 52 := by decide
  generalize (2 : Nat) ^ 52 = B at *
  exact final_rung q B I (e + offOf m e) hlow hB hinf2 hbig
end Go.FltP

namespace Go.FltP
open Ieee
set_option linter.unusedVariables false
def nanR : Nat := infR + 2 ^ 51
def mag (a : Nat) : Nat := a % 2 ^ 63
def neg (a : Nat) : Bool := a / 2 ^ 63 % 2 == 1
def sgn (b : Bool) : Nat := if b then 2 ^ 63 else 0
/-- A float above 0, finite, as m times 2^k. -/
def partM (b : Nat) : Nat := if b / 2 ^ 52 = 0 then b % 2 ^ 52 else b % 2 ^ 52 + 2 ^ 52
def partE (b : Nat) : Int := if b / 2 ^ 52 = 0 then -1074 else (b / 2 ^ 52 : Nat) - 1075
theorem word_eq (s : Bool) (r : Nat) : double.word s r = sgn s + r := by
  unfold Format.word sgn
  cases s
  · simp
  · simp only [if_true]; rfl
theorem read_nan {a : Nat} (h : infR < mag a) : ∃ s t, double.read a = .nan s t := by
  unfold Format.read
  have h1 : ¬ a % double.signWeight < double.binade := by
    have : infR < a % double.signWeight := h
    have h2 : double.binade ≤ infR := by decide
    omega
  have h2 : ¬ a % double.signWeight < double.infRung := by
    have : infR < a % double.signWeight := h
    have h2 : double.infRung = infR := by decide
    omega
  have h3 : ¬ a % double.signWeight = double.infRung := by
    have : infR < a % double.signWeight := h
    have h2 : double.infRung = infR := by decide
    omega
  simp only [h1, h2, h3, if_false]
  exact ⟨_, _, rfl⟩
theorem read_inf {a : Nat} (h : mag a = infR) : double.read a = .infinity (neg a) := by
  unfold Format.read
  have h0 : a % double.signWeight = infR := h
  have h1 : ¬ infR < double.binade := by decide
  have h2 : ¬ infR < double.infRung := by decide
  have h3 : infR = double.infRung := by decide
  simp only [h0, h1, h2, if_false, if_pos h3]
  rfl
theorem read_fin {a : Nat} (h : mag a < infR) : double.read a = .number (neg a) (partM (mag a)) (partE (mag a)) := by
  unfold Format.read
  have h0 : a % double.signWeight = mag a := rfl
  have h3 : infR = double.infRung := by decide
  rw [h3] at h
  have hb : double.binade = 2 ^ 52 := rfl
  have hl : double.leastPlace = -1074 := by decide
  simp only [h0, hb, hl, h, if_true]
  generalize mag a = r
  have hneg : (a / double.signWeight % 2 == 1) = neg a := rfl
  rw [hneg]
  have hB : 0 < 2 ^ 52 := by decide
  unfold partM partE
  generalize (2 : Nat) ^ 52 = B at *
  by_cases c : r < B
  · rw [if_pos c, Nat.div_eq_of_lt c, if_pos rfl, if_pos rfl, Nat.mod_eq_of_lt c]
  · have h1 : 1 ≤ r / B := (Nat.le_div_iff_mul_le hB).2 (by omega)
    rw [if_neg c, if_neg (by omega), if_neg (by omega), Nat.add_comm B]
    congr 1
    omega
theorem infRung_eq : double.infRung = infR := by decide
/-- What a sum's bits are, all NaNs being one. -/
def bitsOf (r : Option Nat) : Nat := r.getD nanR
theorem sum_nl (s : Bool) (t : Nat) (d : Datum) : Datum.sum (.nan s t) d = none := by cases d <;> rfl
theorem sum_nr (s : Bool) (t : Nat) (d : Datum) : Datum.sum d (.nan s t) = none := by cases d <;> rfl
theorem sum_ii (s t : Bool) : Datum.sum (.infinity s) (.infinity t) = if s = t then some (.infinity s) else none := rfl
theorem sum_in (s t : Bool) (m : Nat) (i : Int) : Datum.sum (.infinity s) (.number t m i) = some (.infinity s) := rfl
theorem sum_ni (s t : Bool) (m : Nat) (i : Int) : Datum.sum (.number t m i) (.infinity s) = some (.infinity s) := rfl
theorem sum_nn (s t : Bool) (m n : Nat) (i j : Int) : Datum.sum (.number s m i) (.number t n j) =
    some (.number (if signed s m (i - min i j).toNat + signed t n (j - min i j).toNat = 0 then s && t else decide (signed s m (i - min i j).toNat + signed t n (j - min i j).toNat < 0)) (signed s m (i - min i j).toNat + signed t n (j - min i j).toNat).natAbs (min i j)) := rfl
theorem prod_nl (s : Bool) (t : Nat) (d : Datum) : Datum.product (.nan s t) d = none := by cases d <;> rfl
theorem prod_nr (s : Bool) (t : Nat) (d : Datum) : Datum.product d (.nan s t) = none := by cases d <;> rfl
theorem prod_ii (s t : Bool) : Datum.product (.infinity s) (.infinity t) = some (.infinity (s ^^ t)) := rfl
theorem prod_in (s t : Bool) (n : Nat) (i : Int) : Datum.product (.infinity s) (.number t n i) = if n = 0 then none else some (.infinity (s ^^ t)) := rfl
theorem prod_ni (s t : Bool) (n : Nat) (i : Int) : Datum.product (.number t n i) (.infinity s) = if n = 0 then none else some (.infinity (s ^^ t)) := rfl
theorem prod_nn (s t : Bool) (m n : Nat) (i j : Int) : Datum.product (.number s m i) (.number t n j) = some (.number (s ^^ t) (m * n) (i + j)) := rfl
theorem bits_none (f : Datum → Nat) : bitsOf (Option.map f none) = nanR := by rw [Option.map_none]; unfold bitsOf; rw [Option.getD_none]
theorem bits_some (f : Datum → Nat) (d : Datum) : bitsOf (Option.map f (some d)) = f d := by rw [Option.map_some]; unfold bitsOf; rw [Option.getD_some]
theorem write_inf (s : Bool) : double.write (.infinity s) = sgn s + infR := by
  have h : double.write (.infinity s) = double.word s double.infRung := rfl
  rw [h, word_eq, infRung_eq]
theorem write_num (s : Bool) (m : Nat) (e : Int) : double.write (.number s m e) = sgn s + rnd m e false := by
  have h : double.write (.number s m e) = double.nearest s m e := rfl
  rw [h, nearest_rnd, word_eq]
def addN (s t : Bool) (x y : Nat) (k : Int) : Nat :=
  if s = t then sgn s + rnd (x + y) k false
  else if x = y then 0
  else if y < x then sgn s + rnd (x - y) k false
  else sgn t + rnd (y - x) k false
def addP (a b : Nat) : Nat :=
  if infR < mag a ∨ infR < mag b ∨ (mag a = infR ∧ mag b = infR ∧ a ≠ b) then nanR
  else if mag a = infR then a else if mag b = infR then b
  else if mag a = 0 ∧ mag b = 0 then (if neg a = true ∧ neg b = true then 2 ^ 63 else 0)
  else addN (neg a) (neg b) (partM (mag a) * 2 ^ (partE (mag a) - min (partE (mag a)) (partE (mag b))).toNat) (partM (mag b) * 2 ^ (partE (mag b) - min (partE (mag a)) (partE (mag b))).toNat) (min (partE (mag a)) (partE (mag b)))
theorem parts_zero : partM 0 = 0 ∧ partE 0 = -1074 := by decide
theorem mag_split {a : Nat} (h : a < 2 ^ 64) : a = sgn (neg a) + mag a := by
  unfold sgn neg mag
  have h1 : a / 2 ^ 63 = 0 ∨ a / 2 ^ 63 = 1 := by omega
  rcases h1 with c | c
  · rw [c]
    simp only [Nat.zero_mod, show ((0 : Nat) == 1) = false from rfl, Bool.false_eq_true, if_false]
    omega
  · rw [c]
    simp only [show ((1 % 2 : Nat) == 1) = true from rfl, if_true]
    omega
theorem eq_of_mag {a b : Nat} (ha : a < 2 ^ 64) (hb : b < 2 ^ 64) (hm : mag a = mag b) (hn : neg a = neg b) : a = b := by
  rw [mag_split ha, mag_split hb, hm, hn]
theorem rnd_zero (e : Int) (m : Bool) : rnd 0 e m = 0 := by unfold rnd; rw [if_pos rfl]
theorem shl (m k : Nat) : m <<< k = m * 2 ^ k := Nat.shiftLeft_eq m k
theorem addN_eq (s t : Bool) (x y : Nat) (k : Int) (T : Int) (hT : T = (if s then -(x : Int) else x) + (if t then -(y : Int) else y)) :
    sgn (if T = 0 then s && t else decide (T < 0)) + rnd T.natAbs k false = addN s t x y k := by
  unfold addN
  cases s <;> cases t
  · simp only [Bool.false_eq_true, if_false] at hT
    have h1 : T.natAbs = x + y := by omega
    have h2 : (if T = 0 then false && false else decide (T < 0)) = false := by
      split
      · rfl
      · rw [decide_eq_false_iff_not]; omega
    rw [if_pos rfl, h1, h2]
  · simp only [Bool.false_eq_true, if_false, if_true] at hT
    rw [if_neg (show ¬ (false = true) by decide)]
    by_cases c : x = y
    · have h1 : T = 0 := by omega
      rw [if_pos c, h1, if_pos rfl, Int.natAbs_zero, rnd_zero]
      rfl
    · rw [if_neg c, if_neg (show ¬ T = 0 by omega)]
      by_cases c2 : y < x
      · rw [if_pos c2, show T.natAbs = x - y by omega, show decide (T < 0) = false by rw [decide_eq_false_iff_not]; omega]
      · rw [if_neg c2, show T.natAbs = y - x by omega, show decide (T < 0) = true by rw [decide_eq_true_eq]; omega]
  · simp only [Bool.false_eq_true, if_false, if_true] at hT
    rw [if_neg (show ¬ (true = false) by decide)]
    by_cases c : x = y
    · have h1 : T = 0 := by omega
      rw [if_pos c, h1, if_pos rfl, Int.natAbs_zero, rnd_zero]
      rfl
    · rw [if_neg c, if_neg (show ¬ T = 0 by omega)]
      by_cases c2 : y < x
      · rw [if_pos c2, show T.natAbs = x - y by omega, show decide (T < 0) = true by rw [decide_eq_true_eq]; omega]
      · rw [if_neg c2, show T.natAbs = y - x by omega, show decide (T < 0) = false by rw [decide_eq_false_iff_not]; omega]
  · simp only [if_true] at hT
    have h1 : T.natAbs = x + y := by omega
    have h2 : (if T = 0 then true && true else decide (T < 0)) = true := by
      split
      · rfl
      · rw [decide_eq_true_eq]; omega
    rw [if_pos rfl, h1, h2]
theorem add_eq {a b : Nat} (ha : a < 2 ^ 64) (hb : b < 2 ^ 64) : bitsOf (double.add a b) = addP a b := by
  unfold Format.add addP
  by_cases n1 : infR < mag a
  · obtain ⟨s, t, e⟩ := read_nan n1
    rw [e, if_pos (.inl n1), sum_nl, bits_none]
  by_cases n2 : infR < mag b
  · obtain ⟨s, t, e⟩ := read_nan n2
    rw [e, if_pos (.inr (.inl n2)), sum_nr, bits_none]
  by_cases i1 : mag a = infR
  · rw [read_inf i1]
    by_cases i2 : mag b = infR
    · rw [read_inf i2]
      by_cases hs : neg a = neg b
      · have hab := eq_of_mag ha hb (i1.trans i2.symm) hs
        rw [if_neg (by rintro (h | h | ⟨-, -, h⟩); exact n1 h; exact n2 h; exact h hab), if_pos i1]
        rw [sum_ii, if_pos hs, bits_some, write_inf, ← i1]; exact (mag_split ha).symm
      · have hab : a ≠ b := fun e => hs (by rw [e])
        rw [if_pos (.inr (.inr ⟨i1, i2, hab⟩))]
        rw [sum_ii, if_neg hs, bits_none]
    · rw [read_fin (by omega), if_neg (by rintro (h | h | ⟨-, h, -⟩); exact n1 h; exact n2 h; exact i2 h), if_pos i1]
      rw [sum_in, bits_some, write_inf, ← i1]; exact (mag_split ha).symm
  have f1 : mag a < infR := by omega
  rw [read_fin f1]
  by_cases i2 : mag b = infR
  · rw [read_inf i2, if_neg (by rintro (h | h | ⟨h, -, -⟩); exact n1 h; exact n2 h; exact i1 h), if_neg i1, if_pos i2]
    rw [sum_ni, bits_some, write_inf, ← i2]; exact (mag_split hb).symm
  have f2 : mag b < infR := by omega
  rw [read_fin f2, if_neg (by rintro (h | h | ⟨h, -, -⟩); exact n1 h; exact n2 h; exact i1 h), if_neg i1, if_neg i2]
  rw [sum_nn, bits_some, write_num]
  by_cases z : mag a = 0 ∧ mag b = 0
  · rw [if_pos z, z.1, z.2, parts_zero.1, parts_zero.2]
    cases neg a <;> cases neg b <;> simp [signed, rnd_zero, sgn]
  rw [if_neg z]
  refine addN_eq _ _ _ _ _ _ ?_
  unfold signed
  rw [shl, shl]
/-- The product's bits. -/
def mulP (a b : Nat) : Nat :=
  if infR < mag a ∨ infR < mag b ∨ (mag a = infR ∧ mag b = 0) ∨ (mag a = 0 ∧ mag b = infR) then nanR
  else if mag a = infR ∨ mag b = infR then sgn (neg a ^^ neg b) + infR
  else sgn (neg a ^^ neg b) + rnd (partM (mag a) * partM (mag b)) (partE (mag a) + partE (mag b)) false
theorem partM_zero {r : Nat} : partM r = 0 ↔ r = 0 := by
  unfold partM
  have hB : 0 < 2 ^ 52 := by decide
  generalize (2 : Nat) ^ 52 = B at *
  have e := Nat.div_add_mod r B
  split
  · rename_i h
    rw [h] at e
    simp at e
    omega
  · constructor
    · omega
    · rintro rfl; simp at *
theorem mul_eq {a b : Nat} (ha : a < 2 ^ 64) (hb : b < 2 ^ 64) : bitsOf (double.mul a b) = mulP a b := by
  unfold Format.mul mulP
  by_cases n1 : infR < mag a
  · obtain ⟨s, t, e⟩ := read_nan n1
    rw [e, if_pos (.inl n1), prod_nl, bits_none]
  by_cases n2 : infR < mag b
  · obtain ⟨s, t, e⟩ := read_nan n2
    rw [e, if_pos (.inr (.inl n2)), prod_nr, bits_none]
  have hI : infR ≠ 0 := by decide
  by_cases i1 : mag a = infR
  · rw [read_inf i1]
    by_cases i2 : mag b = infR
    · rw [read_inf i2, if_neg (by rintro (h | h | ⟨-, h⟩ | ⟨h, -⟩); exact n1 h; exact n2 h; exact hI (i2 ▸ h); exact hI (i1 ▸ h)), if_pos (.inl i1), prod_ii, bits_some, write_inf]
    · rw [read_fin (by omega)]
      by_cases z : mag b = 0
      · rw [if_pos (.inr (.inr (.inl ⟨i1, z⟩))), z, parts_zero.1]
        rw [prod_in, if_pos rfl, bits_none]
      · have hz : partM (mag b) ≠ 0 := fun e => z (partM_zero.1 e)
        rw [if_neg (by rintro (h | h | ⟨-, h⟩ | ⟨h, -⟩); exact n1 h; exact n2 h; exact z h; exact hI (i1 ▸ h)), if_pos (.inl i1)]
        rw [prod_in, if_neg hz, bits_some, write_inf]
  have f1 : mag a < infR := by omega
  rw [read_fin f1]
  by_cases i2 : mag b = infR
  · rw [read_inf i2]
    by_cases z : mag a = 0
    · rw [if_pos (.inr (.inr (.inr ⟨z, i2⟩))), z, parts_zero.1]
      rw [prod_ni, if_pos rfl, bits_none]
    · have hz : partM (mag a) ≠ 0 := fun e => z (partM_zero.1 e)
      rw [if_neg (by rintro (h | h | ⟨h, -⟩ | ⟨h, -⟩); exact n1 h; exact n2 h; exact i1 h; exact z h), if_pos (.inr i2)]
      rw [prod_ni, if_neg hz, bits_some, write_inf, Bool.xor_comm]
  have f2 : mag b < infR := by omega
  rw [read_fin f2, if_neg (by rintro (h | h | ⟨h, -⟩ | ⟨-, h⟩); exact n1 h; exact n2 h; exact i1 h; exact i2 h), if_neg (by rintro (h | h); exact i1 h; exact i2 h)]
  rw [prod_nn, bits_some, write_num]
end Go.FltP

namespace Go.FltP
open Ieee
set_option linter.unusedVariables false
/-- The other sign. -/
def flip (a : Nat) : Nat := if neg a then a - 2 ^ 63 else a + 2 ^ 63
theorem flip_parts {a : Nat} (ha : a < 2 ^ 64) : mag (flip a) = mag a ∧ neg (flip a) = (!neg a) ∧ flip a < 2 ^ 64 := by
  have h1 : a / 2 ^ 63 = 0 ∨ a / 2 ^ 63 = 1 := by omega
  unfold flip
  rcases h1 with c | c
  · have hn : neg a = false := by unfold neg; rw [c]; rfl
    rw [hn]
    simp only [Bool.false_eq_true, if_false]
    refine ⟨by unfold mag; omega, ?_, by omega⟩
    unfold neg
    rw [show (a + 2 ^ 63) / 2 ^ 63 = 1 by omega]; rfl
  · have hn : neg a = true := by unfold neg; rw [c]; rfl
    rw [hn]
    simp only [if_true]
    refine ⟨by unfold mag; omega, ?_, by omega⟩
    unfold neg
    rw [show (a - 2 ^ 63) / 2 ^ 63 = 0 by omega]; rfl
def subP (a b : Nat) : Nat := if infR < mag b then nanR else addP a (flip b)
theorem sub_eq {a b : Nat} (ha : a < 2 ^ 64) (hb : b < 2 ^ 64) : bitsOf (double.sub a b) = subP a b := by
  unfold subP
  obtain ⟨f1, f2, f3⟩ := flip_parts hb
  by_cases n2 : infR < mag b
  · rw [if_pos n2]
    obtain ⟨s, t, e⟩ := read_nan n2
    unfold Format.sub
    rw [e, show Datum.opposite (.nan s t) = .nan (!s) t from rfl, sum_nr, bits_none]
  · rw [if_neg n2, ← add_eq ha f3]
    unfold Format.sub Format.add
    have h : (double.read b).opposite = double.read (flip b) := by
      by_cases i2 : mag b = infR
      · rw [read_inf i2, read_inf (f1.trans i2), f2]; rfl
      · rw [read_fin (by omega), read_fin (a := flip b) (by omega), f1, f2]; rfl
    rw [h]
theorem log2_mul_pow {Q' Q b : Nat} (h : Q / 2 ^ b = Q') (h0 : Q' ≠ 0) : Q.log2 = Q'.log2 + b := by
  have hQ : Q ≠ 0 := by rintro rfl; rw [Nat.zero_div] at h; exact h0 h.symm
  rw [Nat.log2_eq_iff hQ]
  have h1 := Nat.log2_self_le h0
  have h2 := Nat.lt_log2_self (n := Q')
  have hp := pow_pos b
  have e1 : Q' * 2 ^ b ≤ Q := by rw [← h]; exact Nat.div_mul_le_self _ _
  have e2 : Q < (Q' + 1) * 2 ^ b := by rw [← h, Nat.add_mul, Nat.one_mul]; exact Nat.lt_div_mul_add hp
  constructor
  · rw [Nat.pow_add]
    exact Nat.le_trans (Nat.mul_le_mul_right _ h1) e1
  · rw [show Q'.log2 + b + 1 = (Q'.log2 + 1) + b by omega, Nat.pow_add]
    exact Nat.lt_of_lt_of_le e2 (Nat.mul_le_mul_right _ h2)
/-- The lowest digits of what has digits enough only tell whether something is left over. -/
theorem rnd_chop {Q Q' b : Nat} (h : Q / 2 ^ b = Q') (h53 : 2 ^ 53 ≤ Q') (e : Int) (more : Bool) : rnd Q e more = rnd Q' (e + b) (more || decide (Q % 2 ^ b ≠ 0)) := by
  have h0 : Q' ≠ 0 := by have := pow_pos 53; omega
  have hQ : Q ≠ 0 := by rintro rfl; rw [Nat.zero_div] at h; exact h0 h.symm
  have hlog := log2_mul_pow h h0
  have hl : 53 ≤ Q'.log2 := (Nat.le_log2 h0).2 h53
  have hoff : offOf Q e = offOf Q' (e + b) + b := by unfold offOf; omega
  have hoff1 : 1 ≤ offOf Q' (e + b) := by unfold offOf; omega
  have hq : qOf Q e more = qOf Q' (e + b) (more || decide (Q % 2 ^ b ≠ 0)) := by
    unfold qOf
    rw [if_neg (by omega), if_neg (by omega)]
    obtain ⟨d, hd⟩ : ∃ d : Nat, offOf Q' (e + b) = (d + 1 : Nat) := ⟨(offOf Q' (e + b)).toNat - 1, by omega⟩
    have e1 : (offOf Q e).toNat = b + (d + 1) := by omega
    have e2 : (offOf Q' (e + b)).toNat = d + 1 := by omega
    rw [e1, e2]
    unfold rndQ
    have p1 : 2 ^ (b + (d + 1)) = 2 ^ b * 2 ^ (d + 1) := Nat.pow_add _ _ _
    have p2 : 2 ^ (b + (d + 1) - 1) = 2 ^ b * 2 ^ d := by rw [← Nat.pow_add]; congr 1
    have p3 : Q / (2 ^ b * 2 ^ (d + 1)) = Q' / 2 ^ (d + 1) := by rw [← Nat.div_div_eq_div_mul, h]
    have p4 : Q % (2 ^ b * 2 ^ (d + 1)) = Q % 2 ^ b + 2 ^ b * (Q' % 2 ^ (d + 1)) := by rw [Nat.mod_mul, h]
    have hr : Q % 2 ^ b < 2 ^ b := Nat.mod_lt _ (pow_pos b)
    rw [p2, p1, p3, p4, show d + 1 - 1 = d by omega]
    generalize Q % 2 ^ b = r at *
    generalize Q' % 2 ^ (d + 1) = R at *
    generalize Q' / 2 ^ (d + 1) = W at *
    generalize (2 : Nat) ^ d = D at *
    have hB := pow_pos b
    generalize (2 : Nat) ^ b = B at *
    have hcond : (B * D < r + B * R ∨ r + B * R = B * D ∧ (more = true ∨ W % 2 = 1)) ↔ (D < R ∨ R = D ∧ ((more || decide (r ≠ 0)) = true ∨ W % 2 = 1)) := by
      rcases Nat.lt_trichotomy R D with c | c | c
      · have : B * (R + 1) ≤ B * D := Nat.mul_le_mul_left _ c
        rw [Nat.mul_add] at this
        constructor
        · rintro (h | ⟨h, -⟩) <;> omega
        · rintro (h | ⟨h, -⟩) <;> omega
      · subst c
        by_cases hr0 : r = 0
        · subst hr0
          simp
        · constructor
          · intro _
            exact .inr ⟨rfl, .inl (by simp [hr0])⟩
          · intro _
            exact .inl (by omega)
      · have : B * (D + 1) ≤ B * R := Nat.mul_le_mul_left _ c
        rw [Nat.mul_add] at this
        constructor
        · intro _; exact .inl c
        · intro _; exact .inl (by omega)
    by_cases c : D < R ∨ R = D ∧ ((more || decide (r ≠ 0)) = true ∨ W % 2 = 1)
    · rw [if_pos c, if_pos (hcond.2 c)]
    · rw [if_neg c, if_neg fun x => c (hcond.1 x)]
  unfold rnd
  rw [if_neg hQ, if_neg h0, hq, show e + offOf Q e = e + b + offOf Q' (e + b) by omega]
def divP (a b : Nat) : Nat :=
  if infR < mag a ∨ infR < mag b ∨ (mag a = infR ∧ mag b = infR) ∨ (mag a = 0 ∧ mag b = 0) then nanR
  else if mag a = infR ∨ mag b = 0 then sgn (neg a ^^ neg b) + infR
  else if mag b = infR ∨ mag a = 0 then sgn (neg a ^^ neg b)
  else sgn (neg a ^^ neg b) + rnd (partM (mag a) * 2 ^ 128 / partM (mag b)) (partE (mag a) - partE (mag b) - 128) (decide (partM (mag a) * 2 ^ 128 % partM (mag b) ≠ 0))
theorem quo_nl (k : Nat) (s : Bool) (t : Nat) (d : Datum) : Datum.quotient k (.nan s t) d = none := by cases d <;> rfl
theorem quo_nr (k : Nat) (s : Bool) (t : Nat) (d : Datum) : Datum.quotient k d (.nan s t) = none := by cases d <;> rfl
theorem quo_ii (k : Nat) (s t : Bool) : Datum.quotient k (.infinity s) (.infinity t) = none := rfl
theorem quo_in (k : Nat) (s t : Bool) (n : Nat) (i : Int) : Datum.quotient k (.infinity s) (.number t n i) = some (.infinity (s ^^ t)) := rfl
theorem quo_ni (k : Nat) (s t : Bool) (n : Nat) (i : Int) : Datum.quotient k (.number s n i) (.infinity t) = some (.number (s ^^ t) 0 0) := rfl
theorem quo_nn (k : Nat) (s t : Bool) (m n : Nat) (i j : Int) : Datum.quotient k (.number s m i) (.number t n j) =
    if n = 0 then if m = 0 then none else some (.infinity (s ^^ t))
    else some (.number (s ^^ t) (2 * ((m <<< (k + n.log2 - m.log2)) / n) + ((m <<< (k + n.log2 - m.log2)) % n != 0).toNat) (i - j - (k + n.log2 - m.log2 : Nat) - 1)) := rfl
theorem partM_lt {r : Nat} : partM r < 2 ^ 53 := by
  unfold partM
  split <;> omega
theorem quo_rnd {m n : Nat} (hm : m ≠ 0) (hn : n ≠ 0) (hm5 : m < 2 ^ 53) (hn5 : n < 2 ^ 53) (x : Int) :
    rnd (2 * ((m <<< (54 + n.log2 - m.log2)) / n) + ((m <<< (54 + n.log2 - m.log2)) % n != 0).toNat) (x - (54 + n.log2 - m.log2 : Nat) - 1) false = rnd (m * 2 ^ 128 / n) (x - 128) (decide (m * 2 ^ 128 % n ≠ 0)) := by
  have hml : m.log2 ≤ 52 := by have := (Nat.log2_lt hm).2 hm5; omega
  have hnl : n.log2 ≤ 52 := by have := (Nat.log2_lt hn).2 hn5; omega
  obtain ⟨a, ha⟩ : ∃ a, a = 54 + n.log2 - m.log2 := ⟨_, rfl⟩
  rw [← ha, shl]
  have ha1 : a + m.log2 = 54 + n.log2 := by omega
  have ha9 : a ≤ 128 := by omega
  have hQ1 : 2 ^ 53 ≤ m * 2 ^ a / n := by
    rw [Nat.le_div_iff_mul_le (by omega)]
    have h1 := Nat.log2_self_le hm
    have h2 := Nat.lt_log2_self (n := n)
    calc 2 ^ 53 * n ≤ 2 ^ 53 * 2 ^ (n.log2 + 1) := Nat.mul_le_mul_left _ (Nat.le_of_lt h2)
      _ = 2 ^ m.log2 * 2 ^ a := by rw [← Nat.pow_add, ← Nat.pow_add]; congr 1; omega
      _ ≤ m * 2 ^ a := Nat.mul_le_mul_right _ h1
  have e1 : (2 * (m * 2 ^ a / n) + (m * 2 ^ a % n != 0).toNat) / 2 ^ 1 = m * 2 ^ a / n := by
    have : (m * 2 ^ a % n != 0).toNat ≤ 1 := Bool.toNat_le _
    omega
  have e2 : decide ((2 * (m * 2 ^ a / n) + (m * 2 ^ a % n != 0).toNat) % 2 ^ 1 ≠ 0) = decide (m * 2 ^ a % n ≠ 0) := by
    by_cases c : m * 2 ^ a % n = 0
    · rw [c]; simp
    · have : (m * 2 ^ a % n != 0) = true := by simpa using c
      rw [this]
      have h1 : (2 * (m * 2 ^ a / n) + Bool.toNat true) % 2 ^ 1 ≠ 0 := by
        show (2 * (m * 2 ^ a / n) + 1) % 2 ^ 1 ≠ 0
        omega
      rw [decide_eq_true h1, decide_eq_true c]
  rw [rnd_chop e1 hQ1, e2, Bool.false_or]
  obtain ⟨b, hb⟩ : ∃ b, b = 128 - a := ⟨_, rfl⟩
  have hab : 2 ^ 128 = 2 ^ a * 2 ^ b := by rw [← Nat.pow_add]; congr 1; omega
  have hm128 : m * 2 ^ 128 = (m * 2 ^ a) * 2 ^ b := by rw [hab, Nat.mul_assoc]
  have hBp := pow_pos b
  have e3 : m * 2 ^ 128 / n / 2 ^ b = m * 2 ^ a / n := by
    rw [hm128, Nat.div_div_eq_div_mul, Nat.mul_div_mul_right _ _ hBp]
  have e4 : (decide (m * 2 ^ 128 % n ≠ 0) || decide (m * 2 ^ 128 / n % 2 ^ b ≠ 0)) = decide (m * 2 ^ a % n ≠ 0) := by
    have hiff : (m * 2 ^ 128 % n = 0 ∧ m * 2 ^ 128 / n % 2 ^ b = 0) ↔ m * 2 ^ a % n = 0 := by
      rw [hm128]
      generalize m * 2 ^ a = P
      generalize (2 : Nat) ^ b = B at *
      constructor
      · rintro ⟨h1, h2⟩
        obtain ⟨k, hk⟩ := Nat.dvd_of_mod_eq_zero h2
        have h3 := Nat.div_add_mod (P * B) n
        rw [h1, hk, Nat.add_zero] at h3
        have h4 : n * k = P := Nat.eq_of_mul_eq_mul_right hBp (by rw [← h3, Nat.mul_assoc, Nat.mul_comm k B])
        rw [← h4]; exact Nat.mul_mod_right _ _
      · intro h1
        obtain ⟨k, hk⟩ := Nat.dvd_of_mod_eq_zero h1
        subst hk
        rw [Nat.mul_assoc]
        refine ⟨Nat.mul_mod_right _ _, ?_⟩
        rw [Nat.mul_div_cancel_left _ (by omega)]
        exact Nat.mul_mod_left _ _
    by_cases c : m * 2 ^ a % n = 0
    · obtain ⟨h1, h2⟩ := hiff.2 c
      rw [h1, h2, c]; rfl
    · rw [decide_eq_true c]
      by_cases h1 : m * 2 ^ 128 % n = 0
      · have h2 : m * 2 ^ 128 / n % 2 ^ b ≠ 0 := fun h => c (hiff.1 ⟨h1, h⟩)
        rw [decide_eq_true h2, Bool.or_true]
      · rw [decide_eq_true h1, Bool.true_or]
  rw [rnd_chop e3 hQ1, e4]
  congr 1
  omega
theorem div_eq {a b : Nat} (ha : a < 2 ^ 64) (hb : b < 2 ^ 64) : bitsOf (double.div a b) = divP a b := by
  unfold Format.div divP
  have hk : double.fractionBits + 2 = 54 := rfl
  rw [hk]
  by_cases n1 : infR < mag a
  · obtain ⟨s, t, e⟩ := read_nan n1
    rw [e, if_pos (.inl n1), quo_nl, bits_none]
  by_cases n2 : infR < mag b
  · obtain ⟨s, t, e⟩ := read_nan n2
    rw [e, if_pos (.inr (.inl n2)), quo_nr, bits_none]
  have hI : infR ≠ 0 := by decide
  by_cases i1 : mag a = infR
  · rw [read_inf i1]
    by_cases i2 : mag b = infR
    · rw [read_inf i2, quo_ii, bits_none, if_pos (.inr (.inr (.inl ⟨i1, i2⟩)))]
    · rw [read_fin (by omega), if_neg (by rintro (h | h | ⟨-, h⟩ | ⟨h, -⟩); exact n1 h; exact n2 h; exact i2 h; exact hI (i1 ▸ h)), if_pos (.inl i1), quo_in, bits_some, write_inf]
  have f1 : mag a < infR := by omega
  rw [read_fin f1]
  by_cases i2 : mag b = infR
  · rw [read_inf i2, if_neg (by rintro (h | h | ⟨h, -⟩ | ⟨-, h⟩); exact n1 h; exact n2 h; exact i1 h; exact hI (i2 ▸ h)), if_neg (by rintro (h | h); exact i1 h; exact hI (i2 ▸ h)), if_pos (.inl i2), quo_ni, bits_some, write_num, rnd_zero, Nat.add_zero]
  have f2 : mag b < infR := by omega
  rw [read_fin f2, quo_nn]
  by_cases zb : mag b = 0
  · rw [if_pos (partM_zero.2 zb)]
    by_cases za : mag a = 0
    · rw [if_pos (partM_zero.2 za), bits_none, if_pos (.inr (.inr (.inr ⟨za, zb⟩)))]
    · rw [if_neg fun h => za (partM_zero.1 h), bits_some, write_inf, if_neg (by rintro (h | h | ⟨h, -⟩ | ⟨h, -⟩); exact n1 h; exact n2 h; exact i1 h; exact za h), if_pos (.inr zb)]
  · rw [if_neg fun h => zb (partM_zero.1 h), bits_some, write_num, if_neg (by rintro (h | h | ⟨h, -⟩ | ⟨-, h⟩); exact n1 h; exact n2 h; exact i1 h; exact zb h), if_neg (by rintro (h | h); exact i1 h; exact zb h)]
    by_cases za : mag a = 0
    · rw [if_pos (.inr za), partM_zero.2 za]
      have : rnd (2 * (0 <<< (54 + (partM (mag b)).log2 - Nat.log2 0) / partM (mag b)) + (0 <<< (54 + (partM (mag b)).log2 - Nat.log2 0) % partM (mag b) != 0).toNat) (partE (mag a) - partE (mag b) - (54 + (partM (mag b)).log2 - Nat.log2 0 : Nat) - 1) false = 0 := by
        rw [Nat.zero_shiftLeft, Nat.zero_div, Nat.zero_mod]
        exact rnd_zero _ _
      rw [this, Nat.add_zero]
    · rw [if_neg (by rintro (h | h); exact i2 h; exact za h), quo_rnd (fun h => za (partM_zero.1 h)) (fun h => zb (partM_zero.1 h)) partM_lt partM_lt]
end Go.FltP

namespace Go.FltP
open Ieee
set_option linter.unusedVariables false
/-- A finite float's value, in units of the least one. -/
def valR (r : Nat) : Nat := partM r * 2 ^ (partE r + 1074).toNat
theorem valR_low {r : Nat} (h : r / 2 ^ 52 = 0) : valR r = r := by
  have e := Nat.div_add_mod r (2 ^ 52)
  unfold valR partM partE
  rw [if_pos h, if_pos h]
  rw [h] at e
  simp only [Nat.mul_zero, Nat.zero_add] at e
  rw [e]
  simp
theorem valR_high {r p : Nat} (h : r / 2 ^ 52 = p + 1) : valR r = (r % 2 ^ 52 + 2 ^ 52) * 2 ^ p := by
  unfold valR partM partE
  rw [if_neg (by omega), if_neg (by omega), h]
  congr 2
  omega
theorem valR_lt {r s : Nat} (h : r < s) : valR r < valR s := by
  have hB := pow_pos 52
  have hr := Nat.mod_lt r hB
  have hs := Nat.mod_lt s hB
  have er := Nat.div_add_mod r (2 ^ 52)
  have es := Nat.div_add_mod s (2 ^ 52)
  have hle : r / 2 ^ 52 ≤ s / 2 ^ 52 := Nat.div_le_div_right (Nat.le_of_lt h)
  have l1 := valR_low (r := r)
  have l2 := fun p => valR_high (r := r) (p := p)
  have k1 := valR_low (r := s)
  have k2 := fun p => valR_high (r := s) (p := p)
  generalize valR r = vr at *
  generalize valR s = vs at *
  generalize (2 : Nat) ^ 52 = B at *
  rcases hp : r / B with _ | p
  · rw [hp] at l1
    rw [l1 rfl]
    rcases hq : s / B with _ | q
    · rw [hq] at k1
      rw [k1 rfl]; exact h
    · rw [k2 q hq]
      rw [hp] at er
      have : s % B + B ≤ (s % B + B) * 2 ^ q := Nat.le_mul_of_pos_right _ (pow_pos q)
      simp only [Nat.mul_zero, Nat.zero_add] at er
      omega
  · rw [l2 p hp]
    rcases hq : s / B with _ | q
    · omega
    · rw [k2 q hq]
      by_cases c : p = q
      · subst c
        rw [hp] at er
        rw [hq] at es
        exact Nat.mul_lt_mul_of_pos_right (by omega) (pow_pos p)
      · have h1 : (r % B + B) * 2 ^ p < (B + B) * 2 ^ p := Nat.mul_lt_mul_of_pos_right (by omega) (pow_pos p)
        have h2 : (B + B) * 2 ^ p = B * 2 ^ (p + 1) := by rw [Nat.pow_succ, ← Nat.two_mul]; rw [Nat.mul_comm 2 B, Nat.mul_assoc, Nat.mul_comm 2]
        have h3 : B * 2 ^ (p + 1) ≤ B * 2 ^ q := Nat.mul_le_mul_left _ (Nat.pow_le_pow_right (by decide) (by omega))
        have h4 : B * 2 ^ q ≤ (s % B + B) * 2 ^ q := Nat.mul_le_mul_right _ (by omega)
        omega
/-- A float's rung, with its sign. -/
def rung (a : Nat) : Int := if neg a then -(mag a : Int) else mag a
theorem compare_int (x y : Int) : compare x y = if x < y then .lt else if x = y then .eq else .gt := by
  show compareOfLessAndEq x y = _
  rfl
theorem ord_nn (s t : Bool) (m n : Nat) (i j : Int) : Datum.order (.number s m i) (.number t n j) = some (compare (signed s m (i - min i j).toNat) (signed t n (j - min i j).toNat)) := rfl
theorem partE_low {r : Nat} : -1074 ≤ partE r := by unfold partE; split <;> omega
theorem scaled (r : Nat) (b : Int) (h : b ≤ partE r) (hb : -1074 ≤ b) : partM r * 2 ^ (partE r - b).toNat * 2 ^ (b + 1074).toNat = valR r := by
  unfold valR
  rw [Nat.mul_assoc, ← Nat.pow_add]
  congr 2
  omega
theorem order_eq {a b : Nat} (ha : mag a ≤ infR) (hb : mag b ≤ infR) : double.order a b = some (compare (rung a) (rung b)) := by
  unfold Format.order
  have hI : 0 < infR := by decide
  by_cases i1 : mag a = infR
  · rw [read_inf i1]
    by_cases i2 : mag b = infR
    · rw [read_inf i2]
      unfold rung
      rw [i1, i2]
      show some (compare (neg b).toNat (neg a).toNat) = _
      cases neg a <;> cases neg b
      · simp only [compare_int, Bool.false_eq_true, if_false]
        rw [if_neg (by omega), if_pos trivial]; rfl
      · simp only [compare_int, Bool.false_eq_true, if_false, if_true]
        rw [if_neg (by omega), if_neg (by omega)]; rfl
      · simp only [compare_int, Bool.false_eq_true, if_false, if_true]
        rw [if_pos (by omega)]; rfl
      · simp only [compare_int, if_true]
        rw [if_neg (by omega)]; rfl
    · have f2 : mag b < infR := by omega
      rw [read_fin f2]
      unfold rung
      rw [i1]
      show some (if neg a then Ordering.lt else .gt) = _
      cases neg a <;> cases neg b <;> simp only [compare_int, Bool.false_eq_true, if_false, if_true]
      · rw [if_neg (by omega), if_neg (by omega)]
      · rw [if_neg (by omega), if_neg (by omega)]
      · rw [if_pos (by omega)]
      · rw [if_pos (by omega)]
  have f1 : mag a < infR := by omega
  rw [read_fin f1]
  by_cases i2 : mag b = infR
  · rw [read_inf i2]
    unfold rung
    rw [i2]
    show some (if neg b then Ordering.gt else .lt) = _
    cases neg a <;> cases neg b <;> simp only [compare_int, Bool.false_eq_true, if_false, if_true]
    · rw [if_pos (by omega)]
    · rw [if_neg (by omega), if_neg (by omega)]
    · rw [if_pos (by omega)]
    · rw [if_neg (by omega), if_neg (by omega)]
  have f2 : mag b < infR := by omega
  rw [read_fin f2, ord_nn]
  congr 1
  have e1 := scaled (mag a) (min (partE (mag a)) (partE (mag b))) (by omega) (by have := partE_low (r := mag a); have := partE_low (r := mag b); omega)
  have e2 := scaled (mag b) (min (partE (mag a)) (partE (mag b))) (by omega) (by have := partE_low (r := mag a); have := partE_low (r := mag b); omega)
  have hlt := fun h => valR_lt (r := mag a) (s := mag b) h
  have hgt := fun h => valR_lt (r := mag b) (s := mag a) h
  have heq : mag a = mag b → valR (mag a) = valR (mag b) := fun h => by rw [h]
  have hz1 : mag a = 0 → valR (mag a) = 0 := fun h => by rw [h]; decide
  have hz2 : mag b = 0 → valR (mag b) = 0 := fun h => by rw [h]; decide
  have hp1 : 0 < mag a → 0 < valR (mag a) := fun h => by have := valR_lt h; omega
  have hp2 : 0 < mag b → 0 < valR (mag b) := fun h => by have := valR_lt h; omega
  unfold signed rung
  rw [shl, shl]
  generalize partM (mag a) * 2 ^ (partE (mag a) - min (partE (mag a)) (partE (mag b))).toNat = x at *
  generalize partM (mag b) * 2 ^ (partE (mag b) - min (partE (mag a)) (partE (mag b))).toNat = y at *
  have hC := pow_pos (min (partE (mag a)) (partE (mag b)) + 1074).toNat
  generalize (2 : Nat) ^ (min (partE (mag a)) (partE (mag b)) + 1074).toNat = C at *
  generalize valR (mag a) = va at *
  generalize valR (mag b) = vb at *
  generalize mag a = p at *
  generalize mag b = q at *
  have cmp : (x < y ↔ p < q) ∧ (x = y ↔ p = q) := by
    have c1 : x < y ↔ va < vb := by rw [← e1, ← e2]; exact (Nat.mul_lt_mul_right hC).symm
    have c2 : x = y ↔ va = vb := by rw [← e1, ← e2]; exact ⟨fun h => by rw [h], fun h => Nat.eq_of_mul_eq_mul_right hC h⟩
    rcases Nat.lt_trichotomy p q with h | h | h
    · have := hlt h; omega
    · have := heq h; omega
    · have := hgt h; omega
  have zx : x = 0 ↔ p = 0 := by
    have : x = 0 ↔ va = 0 := by rw [← e1]; constructor; (intro h; rw [h, Nat.zero_mul]); (intro h; rcases Nat.mul_eq_zero.1 h with h | h; exact h; omega)
    by_cases c : p = 0
    · have := hz1 c; omega
    · have := hp1 (by omega); omega
  have zy : y = 0 ↔ q = 0 := by
    have : y = 0 ↔ vb = 0 := by rw [← e2]; constructor; (intro h; rw [h, Nat.zero_mul]); (intro h; rcases Nat.mul_eq_zero.1 h with h | h; exact h; omega)
    by_cases c : q = 0
    · have := hz2 c; omega
    · have := hp2 (by omega); omega
  obtain ⟨cl, ce⟩ := cmp
  have conv : ∀ X Y P Q : Int, (X < Y ↔ P < Q) → (X = Y ↔ P = Q) → compare X Y = compare P Q := fun X Y P Q h1 h2 => by
    rw [compare_int, compare_int]
    by_cases g1 : X < Y
    · rw [if_pos g1, if_pos (h1.1 g1)]
    · rw [if_neg g1, if_neg fun h => g1 (h1.2 h)]
      by_cases g2 : X = Y
      · rw [if_pos g2, if_pos (h2.1 g2)]
      · rw [if_neg g2, if_neg fun h => g2 (h2.2 h)]
  apply conv
  · cases neg a <;> cases neg b <;> simp only [Bool.false_eq_true, if_false, if_true] <;> omega
  · cases neg a <;> cases neg b <;> simp only [Bool.false_eq_true, if_false, if_true] <;> omega
theorem order_nan {a b : Nat} (h : infR < mag a ∨ infR < mag b) : double.order a b = none := by
  unfold Format.order
  rcases h with h | h
  · obtain ⟨s, t, e⟩ := read_nan h
    rw [e]
    cases double.read b <;> rfl
  · obtain ⟨s, t, e⟩ := read_nan h
    rw [e]
    cases double.read a <;> rfl
end Go.FltP

namespace Go.FltP
open Ieee
set_option linter.unusedVariables false
theorem cut_zero (s : Bool) (n drop : Nat) : Toward.zero.cut s n drop = n / 2 ^ drop := by
  have hlt := Nat.lt_log2_self (n := n)
  unfold Toward.cut
  simp only [Nat.one_shiftLeft, Bool.toNat_false, Nat.add_zero]
  by_cases hd : drop ≤ n.log2 + 2
  · rw [Nat.min_eq_left hd]
  · rw [Nat.min_eq_right (by omega)]
    have e1 : 2 ^ (n.log2 + 2) = 2 * 2 ^ (n.log2 + 1) := by rw [Nat.pow_succ]; omega
    have hp : 2 ^ (n.log2 + 2) ≤ 2 ^ drop := Nat.pow_le_pow_right (by decide) (by omega)
    have hn2 : n < 2 ^ drop := by omega
    rw [Nat.div_eq_of_lt hn2, Nat.div_eq_of_lt (by omega)]
/-- A float's whole part, without its sign. -/
def wholeM (r : Nat) : Nat := partM r * 2 ^ (partE r).toNat / 2 ^ (-partE r).toNat
theorem toInt_eq {a : Nat} (h : mag a < infR) : (double.read a).toInt .zero = some (if neg a then -(wholeM (mag a) : Int) else wholeM (mag a)) := by
  rw [read_fin h]
  show some (signed (neg a) (Toward.zero.cut (neg a) (partM (mag a) <<< (partE (mag a)).toNat) (-partE (mag a)).toNat) 0) = _
  rw [cut_zero, shl]
  unfold signed wholeM
  rw [Nat.shiftLeft_zero]
theorem toInt_nan {a : Nat} (h : infR ≤ mag a) : (double.read a).toInt .zero = none := by
  by_cases e : mag a = infR
  · rw [read_inf e]; rfl
  · obtain ⟨s, t, e⟩ := read_nan (a := a) (by omega)
    rw [e]; rfl
/-- 2^63, as a float. -/
def edgeR : Nat := 1086 * 2 ^ 52
theorem wholeM_lt {r : Nat} (h : r < edgeR) : wholeM r < 2 ^ 63 := by
  have hm := partM_lt (r := r)
  unfold wholeM
  by_cases c : 0 ≤ partE r
  · have h1 : (-partE r).toNat = 0 := by omega
    rw [h1, Nat.pow_zero, Nat.div_one]
    have h2 : (partE r).toNat ≤ 10 := by
      unfold partE at *
      unfold edgeR at h
      split at c
      · omega
      · rename_i g
        rw [if_neg g]
        omega
    calc partM r * 2 ^ (partE r).toNat ≤ partM r * 2 ^ 10 := Nat.mul_le_mul_left _ (Nat.pow_le_pow_right (by decide) h2)
      _ < 2 ^ 63 := by omega
  · have h1 : (partE r).toNat = 0 := by omega
    rw [h1, Nat.pow_zero, Nat.mul_one]
    exact Nat.lt_of_le_of_lt (Nat.div_le_self _ _) (by omega)
/-- A whole number as a float. -/
def floatP (n : Int) : Nat := sgn (decide (n < 0)) + rnd n.natAbs 0 false
theorem float_eq (n : Int) : double.write (.number (decide (n < 0)) n.natAbs 0) = floatP n := write_num _ _ _
/-- A float as a whole number, towards 0, as near as there is one. -/
def wholeP (a : Nat) : Int :=
  if infR < mag a then 0 else if edgeR ≤ mag a then (if neg a then -9223372036854775808 else 9223372036854775807)
  else if neg a then -(wholeM (mag a) : Int) else wholeM (mag a)
/-- Does one stand ahead of another one? -/
def belowP (a b : Nat) : Int := if infR < mag a ∨ infR < mag b then 0 else if rung a < rung b then 1 else 0
theorem rnd_le (m : Nat) (e : Int) (more : Bool) : rnd m e more ≤ infR := by
  have h52 : 2 ^ 52 ≤ infR := by decide
  unfold rnd
  split
  · exact Nat.zero_le _
  · split
    · omega
    · split
      · exact Nat.le_refl _
      · exact Nat.min_le_right _ _
theorem sgn_rnd_lt (s : Bool) {r : Nat} (h : r ≤ infR) : sgn s + r < 2 ^ 64 ∧ mag (sgn s + r) = r := by
  have hI : infR = 2047 * 2 ^ 52 := rfl
  unfold sgn mag
  cases s
  · simp only [Bool.false_eq_true, if_false]
    omega
  · simp only [if_true]
    omega
end Go.FltP
