/- The walks of the reference's layer 5: parts, product, isNaN. -/
import Derived.Test.YtilioiebecpknaaNB
import Derived.Test.YtilioiebecpknaaFltW
namespace Go.Proofs.Ytilioiebecpknaa.Nat5
open Go.RowKit Go.Fb Go.NatP
set_option linter.unusedVariables false
open Go.FltP (partM partE)
theorem and_mask {b : Nat} : b &&& 4503599627370495 = b % 2 ^ 52 := Nat.and_two_pow_sub_one_eq_mod b 52
set_option maxHeartbeats 1000000 in
theorem parts_any {b : Nat} (hb : b < 9223372036854775808) (w : World) :
    Calls Try.prog 60 #[.int .u64 b] w fun e w' => e = .returned (.tuple #[.int .u64 (partM b), .int .i64 (partE b)]) ∧ w' = w := by
  obtain ⟨x, hx⟩ : ∃ x, b / 2 ^ 52 = x := ⟨_, rfl⟩
  obtain ⟨m, hm⟩ : ∃ m, b % 2 ^ 52 = m := ⟨_, rfl⟩
  have hx9 : x ≤ 2047 := by rw [← hx]; omega
  have hm9 : m < 4503599627370496 := by rw [← hm]; exact Nat.mod_lt _ (by decide)
  have hxe : (b : Int) / 4503599627370496 = (x : Int) := by rw [← hx]; omega
  have hme : bits BinOp.and IntKind.u64 (b : Int) 4503599627370495 = (m : Int) := by
    have := uband (x := b) (y := 4503599627370495) (by omega) (by omega)
    rw [and_mask, hm] at this
    exact this
  by_cases h0 : x = 0
  · have hM : partM b = m := by unfold partM; rw [hx, if_pos h0, hm]
    have hE : partE b = -1074 := by unfold partE; rw [hx, if_pos h0]
    rw [hM, hE]
    have hz : ((x : Int) == 0) = true := by simp; omega
    have HX := Lib.hid hx
    have HM := Lib.hid hm
    have HM := Lib.hid hM
    have HE := Lib.hid hE
    clear hx hm hM hE
    go_enter Try.func60, Try.ntmps60
    go_wp2_with fail
    go_ret2
    exact ⟨rfl, rfl⟩
  · have hM : partM b = m + 4503599627370496 := by unfold partM; rw [hx, if_neg h0, hm]
    have hE : partE b = (x : Int) - 1075 := by unfold partE; rw [hx, if_neg h0]
    rw [hM, hE]
    have hz : ((x : Int) == 0) = false := by simp; omega
    have hor : bits BinOp.or IntKind.u64 (m : Int) 4503599627370496 = ((m + 4503599627370496 : Nat) : Int) := by
      have h1 := ubor (x := m) (y := 4503599627370496) (by omega) (by omega)
      have h2 := or_add (x := 1) (d := m) (k := 52) hm9
      rw [Nat.or_comm] at h1
      rw [Nat.one_mul] at h2
      have h3 : (4503599627370496 ||| m : Nat) = 4503599627370496 + m := h2
      rw [h3, Nat.add_comm] at h1
      exact h1
    have HX := Lib.hid hx
    have HM := Lib.hid hm
    have HM := Lib.hid hM
    have HE := Lib.hid hE
    clear hx hm hM hE
    go_enter Try.func60, Try.ntmps60
    go_wp2_with fail
    go_ret2
    exact ⟨rfl, rfl⟩
theorem dig_small {a : Nat} (h : a < 18446744073709551616 * 18446744073709551616) : (dig a).length ≤ 4 := by
  refine dig_len_lt (k := 4) ?_
  unfold B; omega
/-- A number, kept. -/
theorem num_kept {w w' : World} {A : Option Addr} {n c v : Nat} (h : SliceOf repU w w.heap.size A n c (dig v)) (hn : New w w') : SliceOf repU w' w'.heap.size A n c (dig v) := (h.kept hn (Nat.le_refl _) fun _ _ h => h).more hn.size
set_option maxHeartbeats 1000000 in
theorem product_any {a b : Nat} (ha : a < 18446744073709551616) (hb : b < 18446744073709551616) (w : World) :
    Calls Try.prog 67 #[.int .u64 a, .int .u64 b] w (Num w (a * b)) := by
  obtain ⟨l, hl⟩ : ∃ l, b % 4294967296 = l := ⟨_, rfl⟩
  obtain ⟨u, hu⟩ : ∃ u, b / 4294967296 = u := ⟨_, rfl⟩
  have hl9 : l < B := by unfold B; omega
  have hu9 : u < B := by unfold B; omega
  have hle : (b : Int) % 4294967296 = (l : Int) := by omega
  have hue : (b : Int) / 4294967296 = (u : Int) := by omega
  have hue2 : (u : Int) % 4294967296 = (u : Int) := by unfold B at hu9; omega
  have hres : a * l + a * u * 2 ^ 32 = a * b := by
    have : b = l + u * 4294967296 := by omega
    rw [this, Nat.mul_add, Nat.mul_assoc]
  have hla : a * l < 18446744073709551616 * 18446744073709551616 := Nat.mul_lt_mul'' ha (by unfold B at hl9; omega)
  have hua : a * u < 18446744073709551616 * 18446744073709551616 := Nat.mul_lt_mul'' ha (by unfold B at hu9; omega)
  have hub : a * u * 2 ^ 32 < 18446744073709551616 * 18446744073709551616 := by
    have h1 : a * b < 18446744073709551616 * 18446744073709551616 := Nat.mul_lt_mul'' ha hb
    omega
  have hda := dig_small (a := a) (by omega)
  have hdl := dig_small hla
  have hdu := dig_small hua
  have hdb := dig_small hub
  have O1 := Lib.hid fun W => of_any ha W
  have HL := Lib.hid hl
  have HU := Lib.hid hu
  have HL9 := Lib.hid hl9
  have HU9 := Lib.hid hu9
  have HRES := Lib.hid hres
  have HLA := Lib.hid hla
  have HUA := Lib.hid hua
  have HUB := Lib.hid hub
  have HDA := Lib.hid hda
  have HDL := Lib.hid hdl
  have HDU := Lib.hid hdu
  have HDB := Lib.hid hdb
  clear hl hu hl9 hu9 hres hla hua hub hda hdl hdu hdb
  go_enter Try.func67, Try.ntmps67
  go_wp2_with fail
  refine (O1.out _).mono ?_
  rintro e w1 ⟨hn1, A1, k1, c1, rfl, hs1⟩
  have l1 := hs1.len
  have t1 := times_any hs1 HL9.out (by rw [l1]; have := HDA.out; omega)
  have HS1 := Lib.hid hs1
  have T1 := Lib.hid t1
  have L1 := Lib.hid l1
  clear hs1 t1 l1
  go_wp2_with fail
  refine T1.out.mono ?_
  rintro e w2 ⟨hn2, A2, k2, c2, rfl, hs2⟩
  have HS2 := Lib.hid hs2
  clear hs2
  go_wp2_with fail
  refine (O1.out _).mono ?_
  rintro e w3 ⟨hn3, A3, k3, c3, rfl, hs3⟩
  have l3 := hs3.len
  have t3 := times_any hs3 HU9.out (by rw [l3]; have := HDA.out; omega)
  have HS3 := Lib.hid hs3
  have T3 := Lib.hid t3
  have L3 := Lib.hid l3
  clear hs3 t3 l3
  go_wp2_with fail
  refine T3.out.mono ?_
  rintro e w4 ⟨hn4, A4, k4, c4, rfl, hs4⟩
  have l4 := hs4.len
  have t4 := shift_any (k := 32) hs4 (by omega) (by rw [l4]; have := HDU.out; omega)
  have HS4 := Lib.hid hs4
  have T4 := Lib.hid t4
  have L4 := Lib.hid l4
  clear hs4 t4 l4
  go_wp2_with fail
  refine T4.out.mono ?_
  rintro e w5 ⟨hn5, A5, k5, c5, rfl, hs5⟩
  have l5 := hs5.len
  have hs2' := num_kept HS2.out ((hn3.trans hn4).trans hn5)
  have l2 := hs2'.len
  have t5 := sum_any hs2' hs5 (by rw [l2]; have := HDL.out; omega) (by rw [l5]; have := HDB.out; omega)
  rw [HRES.out] at t5
  have hn := (((hn1.trans hn2).trans hn3).trans hn4).trans hn5
  have T5 := Lib.hid t5
  have L5 := Lib.hid l5
  have L2 := Lib.hid l2
  have HS2' := Lib.hid hs2'
  have HS5 := Lib.hid hs5
  clear t5 l5 l2 hs2' hs5
  go_wp2_with fail
  refine T5.out.mono ?_
  rintro e w6 ⟨hn6, A6, k6, c6, rfl, hs6⟩
  have HS6 := Lib.hid hs6
  clear hs6
  go_wp2_with fail
  go_ret
  exact ⟨hn.trans hn6, A6, k6, c6, rfl, HS6.out⟩
end Go.Proofs.Ytilioiebecpknaa.Nat5

namespace Go.Proofs.Ytilioiebecpknaa.Nat5
open Go.RowKit Go.Fb Go.NatP
set_option linter.unusedVariables false
open Go.FltP (mag infR)
theorem mag_bits {a : Nat} (ha : a < 18446744073709551616) : bits BinOp.andNot IntKind.u64 (a : Int) 9223372036854775808 = ((mag a : Nat) : Int) := by
  show IntKind.u64.wrap ((BitVec.ofInt 64 (a : Int) &&& ~~~(BitVec.ofInt 64 ((9223372036854775808 : Nat) : Int))).toNat : Int) = _
  rw [BitVec.ofInt_natCast, BitVec.ofInt_natCast, BitVec.toNat_and, BitVec.toNat_not, BitVec.toNat_ofNat, BitVec.toNat_ofNat, Nat.mod_eq_of_lt ha]
  have h1 : (2 ^ 64 - 1 - 9223372036854775808 % 2 ^ 64 : Nat) = 2 ^ 63 - 1 := by decide
  rw [h1, Nat.and_two_pow_sub_one_eq_mod, wrapN (Nat.lt_of_lt_of_le (Nat.mod_lt _ (by decide)) (by decide))]
  rfl
theorem mag_lt (a : Nat) : mag a < 9223372036854775808 := Nat.mod_lt _ (by decide)
theorem isNaN_any {a : Nat} (ha : a < 18446744073709551616) (w : World) :
    Calls Try.prog 44 #[.int .u64 a] w fun e w' => e = .returned (.bool (decide (infR < mag a))) ∧ w' = w := by
  have hm := mag_bits ha
  have hI : infR = 9218868437227405312 := by decide
  rw [hI]
  generalize mag a = x at *
  by_cases h : 9218868437227405312 < x
  · rw [decide_eq_true h]
    have HA := Lib.hid ha
    have HI := Lib.hid hI
    clear ha hI
    go_enter Try.func44, Try.ntmps44
    go_wp2_with fail
    go_ret
    refine ⟨?_, rfl⟩
    simp [Array.getD]
    omega
  · rw [decide_eq_false h]
    have HA := Lib.hid ha
    have HI := Lib.hid hI
    clear ha hI
    go_enter Try.func44, Try.ntmps44
    go_wp2_with fail
    go_ret
    refine ⟨?_, rfl⟩
    simp [Array.getD]
    omega
end Go.Proofs.Ytilioiebecpknaa.Nat5

namespace Go.Proofs.Ytilioiebecpknaa.Nat5
open Go.RowKit Go.Fb Go.NatP
set_option linter.unusedVariables false
open Go.FltP (rnd rndQ offOf qOf)
theorem off_bl {v : Nat} (h : v ≠ 0) (e : Int) : offOf v e = max ((bl v : Int) - 53) (-1074 - e) := by
  unfold offOf bl
  rw [if_neg h]
  omega
theorem cut_bound {v off : Nat} (h : v ≠ 0) {e : Int} (ho : offOf v e = (off : Int)) : v / 2 ^ off < 2 ^ 53 := by
  have h1 : (Nat.log2 v : Int) - 52 ≤ offOf v e := by unfold offOf; exact Int.le_max_left _ _
  refine Nat.div_lt_of_lt_mul ?_
  rw [← Nat.pow_add]
  exact Nat.lt_of_lt_of_le (Nat.lt_log2_self (n := v)) (Nat.pow_le_pow_right (by decide) (by omega))
theorem up_bound {v off : Nat} (h : v ≠ 0) {e : Int} (ho : offOf v e = -(off : Int)) : v * 2 ^ off < 2 ^ 53 := by
  have h1 : (Nat.log2 v : Int) - 52 ≤ offOf v e := by unfold offOf; exact Int.le_max_left _ _
  have h2 := Nat.mul_lt_mul_of_pos_right (Nat.lt_log2_self (n := v)) (Nat.pow_pos (n := off) (show 0 < 2 by decide))
  refine Nat.lt_of_lt_of_le h2 ?_
  rw [← Nat.pow_add]
  exact Nat.pow_le_pow_right (by decide) (by omega)
theorem sgn_or (s : Bool) {r : Nat} (hr : r < 9223372036854775808) : bits BinOp.or IntKind.u64 ((Go.FltP.sgn s : Nat) : Int) (r : Int) = ((Go.FltP.sgn s + r : Nat) : Int) := by
  cases s with
  | false =>
    have h : Go.FltP.sgn false = 0 := rfl
    rw [h, ubor (by omega) (by omega), Nat.zero_or, Nat.zero_add]
  | true =>
    have h : Go.FltP.sgn true = 9223372036854775808 := by decide
    have h2 := or_add (x := 1) (d := r) (k := 63) hr
    rw [Nat.one_mul] at h2
    rw [h, ubor (by omega) (by omega)]
    congr 1
end Go.Proofs.Ytilioiebecpknaa.Nat5
