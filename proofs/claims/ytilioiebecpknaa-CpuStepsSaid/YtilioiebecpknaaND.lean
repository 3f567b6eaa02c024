/- The walk of the reference's mul (layer 5). -/
import Derived.Test.YtilioiebecpknaaNatG
import Derived.Test.YtilioiebecpknaaFltW
namespace Go.Proofs.Ytilioiebecpknaa.Nat5
open Go.RowKit Go.Fb Go.NatP
set_option linter.unusedVariables false
open Go.FltP (rnd infR sgn neg mag nanR mulP partM partE partM_lt)
theorem uxor {x y : Nat} (hx : x < 18446744073709551616) (hy : y < 18446744073709551616) : bits BinOp.xor IntKind.u64 (x : Int) (y : Int) = ((x ^^^ y : Nat) : Int) := by
  show IntKind.u64.wrap ((BitVec.ofInt 64 (x : Int) ^^^ BitVec.ofInt 64 (y : Int)).toNat : Int) = _
  rw [BitVec.ofInt_natCast, BitVec.ofInt_natCast, BitVec.toNat_xor, BitVec.toNat_ofNat, BitVec.toNat_ofNat, Nat.mod_eq_of_lt hx, Nat.mod_eq_of_lt hy]
  exact wrapN (Nat.xor_lt_two_pow (n := 64) hx hy)
theorem neg_bit (a : Nat) : neg a = a.testBit 63 := by
  rw [Nat.testBit_eq_decide_div_mod_eq]
  unfold neg
  by_cases h : a / 2 ^ 63 % 2 = 1
  · rw [h]; rfl
  · rw [decide_eq_false h]; exact beq_eq_false_iff_ne.2 h
theorem neg_xor (a b : Nat) : neg (a ^^^ b) = (neg a ^^ neg b) := by rw [neg_bit, neg_bit, neg_bit, Nat.testBit_xor]
set_option maxHeartbeats 4000000 in
set_option maxRecDepth 100000 in
theorem mul_any {a b : Nat} (ha : a < 18446744073709551616) (hb : b < 18446744073709551616) (w : World) :
    Calls Try.prog 45 #[.int .u64 a, .int .u64 b] w fun e w' => e = .returned (.int .u64 (mulP a b)) ∧ New w w' := by
  have hI : infR = 9218868437227405312 := by decide
  have hN : nanR = 9221120237041090560 := by decide
  obtain ⟨res, hres⟩ : ∃ res, mulP a b = res := ⟨_, rfl⟩
  rw [hres]
  unfold mulP at hres
  rw [hI, hN] at hres
  have hma := mag_bits ha
  have hmb := mag_bits hb
  have hla := mag_lt a
  have hlb := mag_lt b
  have hxo := uxor ha hb
  have hxl : a ^^^ b < 18446744073709551616 := Nat.xor_lt_two_pow (n := 64) ha hb
  have hsx := sgn_bits hxl
  have hsi := sgn_or (neg a ^^ neg b) (r := 9218868437227405312) (by decide)
  rw [neg_xor] at hsx
  have ra : ∀ ⦃A : Option Addr⦄ ⦃n c v : Nat⦄ ⦃e : Int⦄ ⦃W : World⦄, SliceOf repU W W.heap.size A n c (dig v) → n ≤ 200 → -4000 ≤ e → e ≤ 4000 → Calls Try.prog 63 #[.int .u64 (sgn (neg a ^^ neg b)), .slice A n c, .int .i64 e, .bool false] W fun e' w' => e' = .returned (.int .u64 ((sgn (neg a ^^ neg b) + rnd v e false : Nat) : Int)) ∧ New W w' := fun _ _ _ _ _ _ h h1 h2 h3 => rounded_any h h1 h2 h3
  have pa := fun W => parts_any hla W
  have pb := fun W => parts_any hlb W
  have ea := fun h => partE_bounds (m := mag a) h
  have eb := fun h => partE_bounds (m := mag b) h
  have xa := partM_lt (r := mag a)
  have xb := partM_lt (r := mag b)
  generalize a ^^^ b = x at *
  generalize mag a = ma at *
  generalize mag b = mb at *
  generalize partM ma = m at *
  generalize partM mb = n at *
  generalize partE ma = e at *
  generalize partE mb = f at *
  generalize sgn (neg a ^^ neg b) = g at *
  have hsi2 : bits BinOp.or IntKind.u64 (g : Int) 9218868437227405312 = ((g + 9218868437227405312 : Nat) : Int) := hsi
  clear hsi hxl
  have RA := Lib.hid ra
  have PA := Lib.hid pa
  have PB := Lib.hid pb
  have EA := Lib.hid ea
  have EB := Lib.hid eb
  have XA := Lib.hid xa
  have XB := Lib.hid xb
  have HI := Lib.hid hI
  have HN := Lib.hid hN
  clear ra pa pb ea eb xa xb hI hN
  by_cases c1 : 9218868437227405312 < ma
  · have f1 : decide (9218868437227405312 < (ma : Int)) = true := by rw [decide_eq_true_eq]; omega
    have f2 : decide (9218868437227405312 < ma) = true := by rw [decide_eq_true_eq]; omega
    rw [if_pos (by omega)] at hres
    obtain rfl := hres
    go_enter Try.func45, Try.ntmps45
    go_wp2_with fail
    go_ret
    exact ⟨by first | rfl | simp [Array.getD], Kept.refl _ _⟩
  have f1 : decide (9218868437227405312 < (ma : Int)) = false := by rw [decide_eq_false_iff_not]; omega
  have f2 : decide (9218868437227405312 < ma) = false := by rw [decide_eq_false_iff_not]; omega
  by_cases c2 : 9218868437227405312 < mb
  · have k1 : decide (9218868437227405312 < (mb : Int)) = true := by rw [decide_eq_true_eq]; omega
    have k2 : decide (9218868437227405312 < mb) = true := by rw [decide_eq_true_eq]; omega
    rw [if_pos (by omega)] at hres
    obtain rfl := hres
    go_enter Try.func45, Try.ntmps45
    go_wp2_with fail
    go_ret
    exact ⟨by first | rfl | simp [Array.getD], Kept.refl _ _⟩
  have k1 : decide (9218868437227405312 < (mb : Int)) = false := by rw [decide_eq_false_iff_not]; omega
  have k2 : decide (9218868437227405312 < mb) = false := by rw [decide_eq_false_iff_not]; omega
  by_cases i1 : ma = 9218868437227405312
  · have p1 : ((ma : Int) == 9218868437227405312) = true := by simp; omega
    by_cases z2 : mb = 0
    · have q1 : ((mb : Int) == 0) = true := by simp; omega
      rw [if_pos (by omega)] at hres
      obtain rfl := hres
      go_enter Try.func45, Try.ntmps45
      go_wp2_with fail
      go_ret
      exact ⟨by first | rfl | simp [Array.getD], Kept.refl _ _⟩
    have q1 : ((mb : Int) == 0) = false := by simp; omega
    have r1 : ((ma : Int) == 0) = false := by simp; omega
    rw [if_neg (by omega), if_pos (by omega)] at hres
    rw [hres] at hsi2
    clear hres
    go_enter Try.func45, Try.ntmps45
    go_wp2_with fail
    go_ret
    exact ⟨by first | rfl | simp [Array.getD], Kept.refl _ _⟩
  have p1 : ((ma : Int) == 9218868437227405312) = false := by simp; omega
  by_cases z1 : ma = 0
  · have r1 : ((ma : Int) == 0) = true := by simp; omega
    by_cases i2 : mb = 9218868437227405312
    · have s1 : ((mb : Int) == 9218868437227405312) = true := by simp; omega
      rw [if_pos (by omega)] at hres
      obtain rfl := hres
      go_enter Try.func45, Try.ntmps45
      go_wp2_with fail
      go_ret
      exact ⟨by first | rfl | simp [Array.getD], Kept.refl _ _⟩
    have s1 : ((mb : Int) == 9218868437227405312) = false := by simp; omega
    rw [if_neg (by omega), if_neg (by omega)] at hres
    have ea2 := EA.out (by omega)
    have eb2 := EB.out (by omega)
    have ma2 : m < 9007199254740992 := Nat.lt_of_lt_of_le XA.out (by decide)
    have mb2 : n < 9007199254740992 := Nat.lt_of_lt_of_le XB.out (by decide)
    have P1 := Lib.hid (product_any (a := m) (b := n) (by omega) (by omega) w)
    have hmn : m * n < 18446744073709551616 * 18446744073709551616 := Nat.mul_lt_mul'' (by omega) (by omega)
    have ld := dig_small hmn
    have MA2 := Lib.hid ma2
    have MB2 := Lib.hid mb2
    have HMN := Lib.hid hmn
    have LD := Lib.hid ld
    clear ma2 mb2 hmn ld
    clear z1 i1 i2
    go_enter Try.func45, Try.ntmps45
    go_wp2_with fail
    refine (PA.out _).mono ?_
    rintro e1 w1 ⟨rfl, rfl⟩
    go_wp2_with fail
    refine (PB.out _).mono ?_
    rintro e1 w1 ⟨rfl, rfl⟩
    go_wp2_with fail
    refine P1.out.mono ?_
    rintro e1 w1 ⟨hn1, A1, k1, c1, rfl, hs1⟩
    have T1 := Lib.hid (RA.out (e := e + f) hs1 (by rw [hs1.len]; have := LD.out; omega) (by omega) (by omega))
    rw [hres] at T1
    have HS1 := Lib.hid hs1
    have HN1 := Lib.hid hn1
    clear hs1 hn1
    go_wp2_with fail
    refine T1.out.mono ?_
    rintro e1 w2 ⟨rfl, hn2⟩
    have hn12 := HN1.out.trans hn2
    have HN2 := Lib.hid hn2
    have HN12 := Lib.hid hn12
    clear hn2 hn12
    go_wp2_with fail
    go_ret
    exact ⟨rfl, HN12.out⟩
  have r1 : ((ma : Int) == 0) = false := by simp; omega
  by_cases i2 : mb = 9218868437227405312
  · have s1 : ((mb : Int) == 9218868437227405312) = true := by simp; omega
    rw [if_neg (by omega), if_pos (by omega)] at hres
    rw [hres] at hsi2
    clear hres
    go_enter Try.func45, Try.ntmps45
    go_wp2_with fail
    go_ret
    exact ⟨by first | rfl | simp [Array.getD], Kept.refl _ _⟩
  have s1 : ((mb : Int) == 9218868437227405312) = false := by simp; omega
  rw [if_neg (by omega), if_neg (by omega)] at hres
  have ea2 := EA.out (by omega)
  have eb2 := EB.out (by omega)
  have ma2 : m < 9007199254740992 := Nat.lt_of_lt_of_le XA.out (by decide)
  have mb2 : n < 9007199254740992 := Nat.lt_of_lt_of_le XB.out (by decide)
  have P1 := Lib.hid (product_any (a := m) (b := n) (by omega) (by omega) w)
  have hmn : m * n < 18446744073709551616 * 18446744073709551616 := Nat.mul_lt_mul'' (by omega) (by omega)
  have ld := dig_small hmn
  have MA2 := Lib.hid ma2
  have MB2 := Lib.hid mb2
  have HMN := Lib.hid hmn
  have LD := Lib.hid ld
  clear ma2 mb2 hmn ld
  clear z1 i1 i2
  go_enter Try.func45, Try.ntmps45
  go_wp2_with fail
  refine (PA.out _).mono ?_
  rintro e1 w1 ⟨rfl, rfl⟩
  go_wp2_with fail
  refine (PB.out _).mono ?_
  rintro e1 w1 ⟨rfl, rfl⟩
  go_wp2_with fail
  refine P1.out.mono ?_
  rintro e1 w1 ⟨hn1, A1, k1, c1, rfl, hs1⟩
  have T1 := Lib.hid (RA.out (e := e + f) hs1 (by rw [hs1.len]; have := LD.out; omega) (by omega) (by omega))
  rw [hres] at T1
  have HS1 := Lib.hid hs1
  have HN1 := Lib.hid hn1
  clear hs1 hn1
  go_wp2_with fail
  refine T1.out.mono ?_
  rintro e1 w2 ⟨rfl, hn2⟩
  have hn12 := HN1.out.trans hn2
  have HN2 := Lib.hid hn2
  have HN12 := Lib.hid hn12
  clear hn2 hn12
  go_wp2_with fail
  go_ret
  exact ⟨rfl, HN12.out⟩
end Go.Proofs.Ytilioiebecpknaa.Nat5

namespace Go.Proofs.Ytilioiebecpknaa.Nat5
open Go.RowKit Go.Fb Go.NatP
set_option linter.unusedVariables false
open Go.FltP (rnd infR sgn neg mag nanR belowP rung floatP)
theorem unot {a : Nat} (ha : a < 18446744073709551616) : bits BinOp.xor IntKind.u64 18446744073709551615 (a : Int) = ((18446744073709551615 - a : Nat) : Int) := by
  have h := uxor (x := 18446744073709551615) (y := a) (by decide) ha
  have h2 : 18446744073709551615 ^^^ a = 18446744073709551615 - a := by
    have e1 : (BitVec.allOnes 64 ^^^ BitVec.ofNat 64 a).toNat = (~~~ (BitVec.ofNat 64 a)).toNat := by rw [BitVec.allOnes_xor]
    rw [BitVec.toNat_xor, BitVec.toNat_not, BitVec.toNat_ofNat, BitVec.toNat_allOnes, Nat.mod_eq_of_lt ha] at e1
    exact e1
  rw [h2] at h
  exact h
theorem por {a : Nat} (ha : a < 9223372036854775808) : bits BinOp.or IntKind.u64 (a : Int) 9223372036854775808 = ((a + 9223372036854775808 : Nat) : Int) := by
  have h1 := ubor (x := a) (y := 9223372036854775808) (by omega) (by decide)
  have h2 := or_add (x := 1) (d := a) (k := 63) ha
  rw [Nat.or_comm] at h1
  rw [Nat.one_mul] at h2
  have h3 : (9223372036854775808 ||| a : Nat) = 9223372036854775808 + a := h2
  rw [h3, Nat.add_comm] at h1
  exact h1
set_option maxHeartbeats 4000000 in
set_option maxRecDepth 100000 in
theorem below_any {a b : Nat} (ha : a < 18446744073709551616) (hb : b < 18446744073709551616) (w : World) :
    Calls Try.prog 47 #[.int .u64 a, .int .u64 b] w fun e w' => e = .returned (.int .i64 (belowP a b)) ∧ w' = w := by
  have hI : infR = 9218868437227405312 := by decide
  obtain ⟨res, hres⟩ : ∃ res, belowP a b = res := ⟨_, rfl⟩
  rw [hres]
  unfold belowP rung at hres
  rw [hI] at hres
  have na := fun W => isNaN_any ha W
  have nb := fun W => isNaN_any hb W
  rw [hI] at na nb
  have hma := mag_bits ha
  have hmb := mag_bits hb
  have hla := mag_lt a
  have hlb := mag_lt b
  have hsa := sgn_bits ha
  have hsb := sgn_bits hb
  have spa := Go.FltP.mag_split ha
  have spb := Go.FltP.mag_split hb
  have ya : neg a = true → bits BinOp.xor IntKind.u64 (if IntKind.u64.signed = true then -1 else IntKind.u64.max) (a : Int) = ((18446744073709551615 - a : Nat) : Int) := fun _ => unot ha
  have yb : neg b = true → bits BinOp.xor IntKind.u64 (if IntKind.u64.signed = true then -1 else IntKind.u64.max) (b : Int) = ((18446744073709551615 - b : Nat) : Int) := fun _ => unot hb
  have za : a < 9223372036854775808 → bits BinOp.or IntKind.u64 (a : Int) 9223372036854775808 = ((a + 9223372036854775808 : Nat) : Int) := fun h => por h
  have zb : b < 9223372036854775808 → bits BinOp.or IntKind.u64 (b : Int) 9223372036854775808 = ((b + 9223372036854775808 : Nat) : Int) := fun h => por h
  have s0 : sgn false = 0 := rfl
  have s1 : sgn true = 9223372036854775808 := rfl
  generalize mag a = ma at *
  generalize mag b = mb at *
  generalize neg a = sa at *
  generalize neg b = sb at *
  have NA := Lib.hid na
  have NB := Lib.hid nb
  have YA := Lib.hid ya
  have YB := Lib.hid yb
  have ZA := Lib.hid za
  have ZB := Lib.hid zb
  clear na nb ya yb za zb
  by_cases c1 : 9218868437227405312 < ma
  · rw [if_pos (.inl c1)] at hres
    obtain rfl := hres
    have N1 := Lib.hid (NA.out w)
    rw [decide_eq_true c1] at N1
    clear spa spb s0 s1 hsa hsb
    go_enter Try.func47, Try.ntmps47
    go_wp2_with fail
    refine N1.out.mono ?_
    rintro e1 w1 ⟨rfl, rfl⟩
    go_wp2_with fail
    go_ret
    exact ⟨rfl, rfl⟩
  have N1 := Lib.hid (NA.out w)
  rw [decide_eq_false c1] at N1
  by_cases c2 : 9218868437227405312 < mb
  · rw [if_pos (.inr c2)] at hres
    obtain rfl := hres
    have N2 := Lib.hid (NB.out w)
    rw [decide_eq_true c2] at N2
    clear spa spb s0 s1 hsa hsb
    go_enter Try.func47, Try.ntmps47
    go_wp2_with fail
    refine N1.out.mono ?_
    rintro e1 w1 ⟨rfl, rfl⟩
    go_wp2_with fail
    refine N2.out.mono ?_
    rintro e1 w1 ⟨rfl, rfl⟩
    go_wp2_with fail
    go_ret
    exact ⟨rfl, rfl⟩
  have N2 := Lib.hid (NB.out w)
  rw [decide_eq_false c2] at N2
  rw [if_neg (by omega)] at hres
  by_cases z1 : ma = 0
  · have r1 : ((ma : Int) == 0) = true := by simp; omega
    by_cases z2 : mb = 0
    · have tt1 : ((mb : Int) == 0) = true := by simp; omega
      have hr : res = 0 := by
        rw [← hres, z1, z2]
        cases sa <;> cases sb <;> rfl
      subst hr
      clear hres z1 z2 spa spb s0 s1 hsa hsb
      go_enter Try.func47, Try.ntmps47
      go_wp2_with fail
      refine N1.out.mono ?_
      rintro e1 w1 ⟨rfl, rfl⟩
      go_wp2_with fail
      refine N2.out.mono ?_
      rintro e1 w1 ⟨rfl, rfl⟩
      go_wp2_with fail
      go_ret
      exact ⟨by first | rfl | simp [Array.getD], rfl⟩
    have tt1 : ((mb : Int) == 0) = false := by simp; omega
    cases sa
    · cases sb
      · have va0 : a = ma := by rw [s0] at spa; omega
        have qa := ZA.out (by omega)
        obtain ⟨x, hx⟩ : ∃ x, a + 9223372036854775808 = x := ⟨_, rfl⟩
        rw [hx] at qa
        have hsa2 : bits BinOp.and IntKind.u64 (a : Int) 9223372036854775808 = 0 := hsa
        have va : x = 9223372036854775808 + ma := by omega
        clear va0
        have va0 : b = mb := by rw [s0] at spb; omega
        have qb := ZB.out (by omega)
        obtain ⟨y, hy⟩ : ∃ y, b + 9223372036854775808 = y := ⟨_, rfl⟩
        rw [hy] at qb
        have hsb2 : bits BinOp.and IntKind.u64 (b : Int) 9223372036854775808 = 0 := hsb
        have vb : y = 9223372036854775808 + mb := by omega
        clear va0
        simp only [if_false, Bool.false_eq_true] at hres
        by_cases hxy : x < y
        · obtain rfl : res = 1 := by rw [← hres]; exact if_pos (by omega)
          have d1 : decide ((x : Int) < (y : Int)) = true := by rw [decide_eq_true_eq]; omega
          have d2 : decide (x < y) = true := by rw [decide_eq_true_eq]; omega
          clear hres hxy hx hy va vb spa spb s0 s1 hsa hsb z1 z2
          go_enter Try.func47, Try.ntmps47
          go_wp2_with fail
          refine N1.out.mono ?_
          rintro e1 w1 ⟨rfl, rfl⟩
          go_wp2_with fail
          refine N2.out.mono ?_
          rintro e1 w1 ⟨rfl, rfl⟩
          go_wp2_with fail
          go_ret
          exact ⟨by first | rfl | simp [Array.getD], rfl⟩
        · obtain rfl : res = 0 := by rw [← hres]; exact if_neg (by omega)
          have d1 : decide ((x : Int) < (y : Int)) = false := by rw [decide_eq_false_iff_not]; omega
          have d2 : decide (x < y) = false := by rw [decide_eq_false_iff_not]; omega
          clear hres hxy hx hy va vb spa spb s0 s1 hsa hsb z1 z2
          go_enter Try.func47, Try.ntmps47
          go_wp2_with fail
          refine N1.out.mono ?_
          rintro e1 w1 ⟨rfl, rfl⟩
          go_wp2_with fail
          refine N2.out.mono ?_
          rintro e1 w1 ⟨rfl, rfl⟩
          go_wp2_with fail
          go_ret
          exact ⟨by first | rfl | simp [Array.getD], rfl⟩
      · have va0 : a = ma := by rw [s0] at spa; omega
        have qa := ZA.out (by omega)
        obtain ⟨x, hx⟩ : ∃ x, a + 9223372036854775808 = x := ⟨_, rfl⟩
        rw [hx] at qa
        have hsa2 : bits BinOp.and IntKind.u64 (a : Int) 9223372036854775808 = 0 := hsa
        have va : x = 9223372036854775808 + ma := by omega
        clear va0
        have qb := YB.out rfl
        have lb : ((9223372036854775808 : Int) == 0) = false := rfl
        obtain ⟨y, hy⟩ : ∃ y, 18446744073709551615 - b = y := ⟨_, rfl⟩
        rw [hy] at qb
        have hsb2 : bits BinOp.and IntKind.u64 (b : Int) 9223372036854775808 = 9223372036854775808 := hsb
        have vb : y + mb = 9223372036854775807 ∧ b = 9223372036854775808 + mb := by rw [s1] at spb; omega
        simp only [if_true, if_false, Bool.false_eq_true] at hres
        by_cases hxy : x < y
        · obtain rfl : res = 1 := by rw [← hres]; exact if_pos (by omega)
          have d1 : decide ((x : Int) < (y : Int)) = true := by rw [decide_eq_true_eq]; omega
          have d2 : decide (x < y) = true := by rw [decide_eq_true_eq]; omega
          clear hres hxy hx hy va vb spa spb s0 s1 hsa hsb z1 z2
          go_enter Try.func47, Try.ntmps47
          go_wp2_with fail
          refine N1.out.mono ?_
          rintro e1 w1 ⟨rfl, rfl⟩
          go_wp2_with fail
          refine N2.out.mono ?_
          rintro e1 w1 ⟨rfl, rfl⟩
          go_wp2_with fail
          go_ret
          exact ⟨by first | rfl | simp [Array.getD], rfl⟩
        · obtain rfl : res = 0 := by rw [← hres]; exact if_neg (by omega)
          have d1 : decide ((x : Int) < (y : Int)) = false := by rw [decide_eq_false_iff_not]; omega
          have d2 : decide (x < y) = false := by rw [decide_eq_false_iff_not]; omega
          clear hres hxy hx hy va vb spa spb s0 s1 hsa hsb z1 z2
          go_enter Try.func47, Try.ntmps47
          go_wp2_with fail
          refine N1.out.mono ?_
          rintro e1 w1 ⟨rfl, rfl⟩
          go_wp2_with fail
          refine N2.out.mono ?_
          rintro e1 w1 ⟨rfl, rfl⟩
          go_wp2_with fail
          go_ret
          exact ⟨by first | rfl | simp [Array.getD], rfl⟩
    · cases sb
      · have qa := YA.out rfl
        have la : ((9223372036854775808 : Int) == 0) = false := rfl
        obtain ⟨x, hx⟩ : ∃ x, 18446744073709551615 - a = x := ⟨_, rfl⟩
        rw [hx] at qa
        have hsa2 : bits BinOp.and IntKind.u64 (a : Int) 9223372036854775808 = 9223372036854775808 := hsa
        have va : x + ma = 9223372036854775807 ∧ a = 9223372036854775808 + ma := by rw [s1] at spa; omega
        have va0 : b = mb := by rw [s0] at spb; omega
        have qb := ZB.out (by omega)
        obtain ⟨y, hy⟩ : ∃ y, b + 9223372036854775808 = y := ⟨_, rfl⟩
        rw [hy] at qb
        have hsb2 : bits BinOp.and IntKind.u64 (b : Int) 9223372036854775808 = 0 := hsb
        have vb : y = 9223372036854775808 + mb := by omega
        clear va0
        simp only [if_true, if_false, Bool.false_eq_true] at hres
        by_cases hxy : x < y
        · obtain rfl : res = 1 := by rw [← hres]; exact if_pos (by omega)
          have d1 : decide ((x : Int) < (y : Int)) = true := by rw [decide_eq_true_eq]; omega
          have d2 : decide (x < y) = true := by rw [decide_eq_true_eq]; omega
          clear hres hxy hx hy va vb spa spb s0 s1 hsa hsb z1 z2
          go_enter Try.func47, Try.ntmps47
          go_wp2_with fail
          refine N1.out.mono ?_
          rintro e1 w1 ⟨rfl, rfl⟩
          go_wp2_with fail
          refine N2.out.mono ?_
          rintro e1 w1 ⟨rfl, rfl⟩
          go_wp2_with fail
          go_ret
          exact ⟨by first | rfl | simp [Array.getD], rfl⟩
        · obtain rfl : res = 0 := by rw [← hres]; exact if_neg (by omega)
          have d1 : decide ((x : Int) < (y : Int)) = false := by rw [decide_eq_false_iff_not]; omega
          have d2 : decide (x < y) = false := by rw [decide_eq_false_iff_not]; omega
          clear hres hxy hx hy va vb spa spb s0 s1 hsa hsb z1 z2
          go_enter Try.func47, Try.ntmps47
          go_wp2_with fail
          refine N1.out.mono ?_
          rintro e1 w1 ⟨rfl, rfl⟩
          go_wp2_with fail
          refine N2.out.mono ?_
          rintro e1 w1 ⟨rfl, rfl⟩
          go_wp2_with fail
          go_ret
          exact ⟨by first | rfl | simp [Array.getD], rfl⟩
      · have qa := YA.out rfl
        have la : ((9223372036854775808 : Int) == 0) = false := rfl
        obtain ⟨x, hx⟩ : ∃ x, 18446744073709551615 - a = x := ⟨_, rfl⟩
        rw [hx] at qa
        have hsa2 : bits BinOp.and IntKind.u64 (a : Int) 9223372036854775808 = 9223372036854775808 := hsa
        have va : x + ma = 9223372036854775807 ∧ a = 9223372036854775808 + ma := by rw [s1] at spa; omega
        have qb := YB.out rfl
        have lb : ((9223372036854775808 : Int) == 0) = false := rfl
        obtain ⟨y, hy⟩ : ∃ y, 18446744073709551615 - b = y := ⟨_, rfl⟩
        rw [hy] at qb
        have hsb2 : bits BinOp.and IntKind.u64 (b : Int) 9223372036854775808 = 9223372036854775808 := hsb
        have vb : y + mb = 9223372036854775807 ∧ b = 9223372036854775808 + mb := by rw [s1] at spb; omega
        simp only [if_true] at hres
        by_cases hxy : x < y
        · obtain rfl : res = 1 := by rw [← hres]; exact if_pos (by omega)
          have d1 : decide ((x : Int) < (y : Int)) = true := by rw [decide_eq_true_eq]; omega
          have d2 : decide (x < y) = true := by rw [decide_eq_true_eq]; omega
          clear hres hxy hx hy va vb spa spb s0 s1 hsa hsb z1 z2
          go_enter Try.func47, Try.ntmps47
          go_wp2_with fail
          refine N1.out.mono ?_
          rintro e1 w1 ⟨rfl, rfl⟩
          go_wp2_with fail
          refine N2.out.mono ?_
          rintro e1 w1 ⟨rfl, rfl⟩
          go_wp2_with fail
          go_ret
          exact ⟨by first | rfl | simp [Array.getD], rfl⟩
        · obtain rfl : res = 0 := by rw [← hres]; exact if_neg (by omega)
          have d1 : decide ((x : Int) < (y : Int)) = false := by rw [decide_eq_false_iff_not]; omega
          have d2 : decide (x < y) = false := by rw [decide_eq_false_iff_not]; omega
          clear hres hxy hx hy va vb spa spb s0 s1 hsa hsb z1 z2
          go_enter Try.func47, Try.ntmps47
          go_wp2_with fail
          refine N1.out.mono ?_
          rintro e1 w1 ⟨rfl, rfl⟩
          go_wp2_with fail
          refine N2.out.mono ?_
          rintro e1 w1 ⟨rfl, rfl⟩
          go_wp2_with fail
          go_ret
          exact ⟨by first | rfl | simp [Array.getD], rfl⟩
  have r1 : ((ma : Int) == 0) = false := by simp; omega
  cases sa
  · cases sb
    · have va0 : a = ma := by rw [s0] at spa; omega
      have qa := ZA.out (by omega)
      obtain ⟨x, hx⟩ : ∃ x, a + 9223372036854775808 = x := ⟨_, rfl⟩
      rw [hx] at qa
      have hsa2 : bits BinOp.and IntKind.u64 (a : Int) 9223372036854775808 = 0 := hsa
      have va : x = 9223372036854775808 + ma := by omega
      clear va0
      have va0 : b = mb := by rw [s0] at spb; omega
      have qb := ZB.out (by omega)
      obtain ⟨y, hy⟩ : ∃ y, b + 9223372036854775808 = y := ⟨_, rfl⟩
      rw [hy] at qb
      have hsb2 : bits BinOp.and IntKind.u64 (b : Int) 9223372036854775808 = 0 := hsb
      have vb : y = 9223372036854775808 + mb := by omega
      clear va0
      simp only [if_false, Bool.false_eq_true] at hres
      by_cases hxy : x < y
      · obtain rfl : res = 1 := by rw [← hres]; exact if_pos (by omega)
        have d1 : decide ((x : Int) < (y : Int)) = true := by rw [decide_eq_true_eq]; omega
        have d2 : decide (x < y) = true := by rw [decide_eq_true_eq]; omega
        clear hres hxy hx hy va vb spa spb s0 s1 hsa hsb z1
        go_enter Try.func47, Try.ntmps47
        go_wp2_with fail
        refine N1.out.mono ?_
        rintro e1 w1 ⟨rfl, rfl⟩
        go_wp2_with fail
        refine N2.out.mono ?_
        rintro e1 w1 ⟨rfl, rfl⟩
        go_wp2_with fail
        go_ret
        exact ⟨by first | rfl | simp [Array.getD], rfl⟩
      · obtain rfl : res = 0 := by rw [← hres]; exact if_neg (by omega)
        have d1 : decide ((x : Int) < (y : Int)) = false := by rw [decide_eq_false_iff_not]; omega
        have d2 : decide (x < y) = false := by rw [decide_eq_false_iff_not]; omega
        clear hres hxy hx hy va vb spa spb s0 s1 hsa hsb z1
        go_enter Try.func47, Try.ntmps47
        go_wp2_with fail
        refine N1.out.mono ?_
        rintro e1 w1 ⟨rfl, rfl⟩
        go_wp2_with fail
        refine N2.out.mono ?_
        rintro e1 w1 ⟨rfl, rfl⟩
        go_wp2_with fail
        go_ret
        exact ⟨by first | rfl | simp [Array.getD], rfl⟩
    · have va0 : a = ma := by rw [s0] at spa; omega
      have qa := ZA.out (by omega)
      obtain ⟨x, hx⟩ : ∃ x, a + 9223372036854775808 = x := ⟨_, rfl⟩
      rw [hx] at qa
      have hsa2 : bits BinOp.and IntKind.u64 (a : Int) 9223372036854775808 = 0 := hsa
      have va : x = 9223372036854775808 + ma := by omega
      clear va0
      have qb := YB.out rfl
      have lb : ((9223372036854775808 : Int) == 0) = false := rfl
      obtain ⟨y, hy⟩ : ∃ y, 18446744073709551615 - b = y := ⟨_, rfl⟩
      rw [hy] at qb
      have hsb2 : bits BinOp.and IntKind.u64 (b : Int) 9223372036854775808 = 9223372036854775808 := hsb
      have vb : y + mb = 9223372036854775807 ∧ b = 9223372036854775808 + mb := by rw [s1] at spb; omega
      simp only [if_true, if_false, Bool.false_eq_true] at hres
      by_cases hxy : x < y
      · obtain rfl : res = 1 := by rw [← hres]; exact if_pos (by omega)
        have d1 : decide ((x : Int) < (y : Int)) = true := by rw [decide_eq_true_eq]; omega
        have d2 : decide (x < y) = true := by rw [decide_eq_true_eq]; omega
        clear hres hxy hx hy va vb spa spb s0 s1 hsa hsb z1
        go_enter Try.func47, Try.ntmps47
        go_wp2_with fail
        refine N1.out.mono ?_
        rintro e1 w1 ⟨rfl, rfl⟩
        go_wp2_with fail
        refine N2.out.mono ?_
        rintro e1 w1 ⟨rfl, rfl⟩
        go_wp2_with fail
        go_ret
        exact ⟨by first | rfl | simp [Array.getD], rfl⟩
      · obtain rfl : res = 0 := by rw [← hres]; exact if_neg (by omega)
        have d1 : decide ((x : Int) < (y : Int)) = false := by rw [decide_eq_false_iff_not]; omega
        have d2 : decide (x < y) = false := by rw [decide_eq_false_iff_not]; omega
        clear hres hxy hx hy va vb spa spb s0 s1 hsa hsb z1
        go_enter Try.func47, Try.ntmps47
        go_wp2_with fail
        refine N1.out.mono ?_
        rintro e1 w1 ⟨rfl, rfl⟩
        go_wp2_with fail
        refine N2.out.mono ?_
        rintro e1 w1 ⟨rfl, rfl⟩
        go_wp2_with fail
        go_ret
        exact ⟨by first | rfl | simp [Array.getD], rfl⟩
  · cases sb
    · have qa := YA.out rfl
      have la : ((9223372036854775808 : Int) == 0) = false := rfl
      obtain ⟨x, hx⟩ : ∃ x, 18446744073709551615 - a = x := ⟨_, rfl⟩
      rw [hx] at qa
      have hsa2 : bits BinOp.and IntKind.u64 (a : Int) 9223372036854775808 = 9223372036854775808 := hsa
      have va : x + ma = 9223372036854775807 ∧ a = 9223372036854775808 + ma := by rw [s1] at spa; omega
      have va0 : b = mb := by rw [s0] at spb; omega
      have qb := ZB.out (by omega)
      obtain ⟨y, hy⟩ : ∃ y, b + 9223372036854775808 = y := ⟨_, rfl⟩
      rw [hy] at qb
      have hsb2 : bits BinOp.and IntKind.u64 (b : Int) 9223372036854775808 = 0 := hsb
      have vb : y = 9223372036854775808 + mb := by omega
      clear va0
      simp only [if_true, if_false, Bool.false_eq_true] at hres
      by_cases hxy : x < y
      · obtain rfl : res = 1 := by rw [← hres]; exact if_pos (by omega)
        have d1 : decide ((x : Int) < (y : Int)) = true := by rw [decide_eq_true_eq]; omega
        have d2 : decide (x < y) = true := by rw [decide_eq_true_eq]; omega
        clear hres hxy hx hy va vb spa spb s0 s1 hsa hsb z1
        go_enter Try.func47, Try.ntmps47
        go_wp2_with fail
        refine N1.out.mono ?_
        rintro e1 w1 ⟨rfl, rfl⟩
        go_wp2_with fail
        refine N2.out.mono ?_
        rintro e1 w1 ⟨rfl, rfl⟩
        go_wp2_with fail
        go_ret
        exact ⟨by first | rfl | simp [Array.getD], rfl⟩
      · obtain rfl : res = 0 := by rw [← hres]; exact if_neg (by omega)
        have d1 : decide ((x : Int) < (y : Int)) = false := by rw [decide_eq_false_iff_not]; omega
        have d2 : decide (x < y) = false := by rw [decide_eq_false_iff_not]; omega
        clear hres hxy hx hy va vb spa spb s0 s1 hsa hsb z1
        go_enter Try.func47, Try.ntmps47
        go_wp2_with fail
        refine N1.out.mono ?_
        rintro e1 w1 ⟨rfl, rfl⟩
        go_wp2_with fail
        refine N2.out.mono ?_
        rintro e1 w1 ⟨rfl, rfl⟩
        go_wp2_with fail
        go_ret
        exact ⟨by first | rfl | simp [Array.getD], rfl⟩
    · have qa := YA.out rfl
      have la : ((9223372036854775808 : Int) == 0) = false := rfl
      obtain ⟨x, hx⟩ : ∃ x, 18446744073709551615 - a = x := ⟨_, rfl⟩
      rw [hx] at qa
      have hsa2 : bits BinOp.and IntKind.u64 (a : Int) 9223372036854775808 = 9223372036854775808 := hsa
      have va : x + ma = 9223372036854775807 ∧ a = 9223372036854775808 + ma := by rw [s1] at spa; omega
      have qb := YB.out rfl
      have lb : ((9223372036854775808 : Int) == 0) = false := rfl
      obtain ⟨y, hy⟩ : ∃ y, 18446744073709551615 - b = y := ⟨_, rfl⟩
      rw [hy] at qb
      have hsb2 : bits BinOp.and IntKind.u64 (b : Int) 9223372036854775808 = 9223372036854775808 := hsb
      have vb : y + mb = 9223372036854775807 ∧ b = 9223372036854775808 + mb := by rw [s1] at spb; omega
      simp only [if_true] at hres
      by_cases hxy : x < y
      · obtain rfl : res = 1 := by rw [← hres]; exact if_pos (by omega)
        have d1 : decide ((x : Int) < (y : Int)) = true := by rw [decide_eq_true_eq]; omega
        have d2 : decide (x < y) = true := by rw [decide_eq_true_eq]; omega
        clear hres hxy hx hy va vb spa spb s0 s1 hsa hsb z1
        go_enter Try.func47, Try.ntmps47
        go_wp2_with fail
        refine N1.out.mono ?_
        rintro e1 w1 ⟨rfl, rfl⟩
        go_wp2_with fail
        refine N2.out.mono ?_
        rintro e1 w1 ⟨rfl, rfl⟩
        go_wp2_with fail
        go_ret
        exact ⟨by first | rfl | simp [Array.getD], rfl⟩
      · obtain rfl : res = 0 := by rw [← hres]; exact if_neg (by omega)
        have d1 : decide ((x : Int) < (y : Int)) = false := by rw [decide_eq_false_iff_not]; omega
        have d2 : decide (x < y) = false := by rw [decide_eq_false_iff_not]; omega
        clear hres hxy hx hy va vb spa spb s0 s1 hsa hsb z1
        go_enter Try.func47, Try.ntmps47
        go_wp2_with fail
        refine N1.out.mono ?_
        rintro e1 w1 ⟨rfl, rfl⟩
        go_wp2_with fail
        refine N2.out.mono ?_
        rintro e1 w1 ⟨rfl, rfl⟩
        go_wp2_with fail
        go_ret
        exact ⟨by first | rfl | simp [Array.getD], rfl⟩
set_option maxHeartbeats 4000000 in
set_option maxRecDepth 100000 in
theorem rfloat_any {n : Int} (h1 : -9223372036854775808 ≤ n) (h2 : n ≤ 9223372036854775807) (w : World) :
    Calls Try.prog 48 #[.int .i64 n] w fun e w' => e = .returned (.int .u64 (floatP n)) ∧ New w w' := by
  obtain ⟨m, hm⟩ : ∃ m, n.natAbs = m := ⟨_, rfl⟩
  have hm9 : m ≤ 9223372036854775808 := by omega
  have O1 := Lib.hid (of_any (x := m) (by omega) w)
  have ld : (dig m).length ≤ 200 := Nat.le_trans (dig_small (a := m) (by omega)) (by decide)
  have r0 : ∀ ⦃A : Option Addr⦄ ⦃n c : Nat⦄ ⦃W : World⦄, SliceOf repU W W.heap.size A n c (dig m) → n ≤ 200 → Calls Try.prog 63 #[.int .u64 (sgn false), .slice A n c, .int .i64 0, .bool false] W fun e' w' => e' = .returned (.int .u64 ((sgn false + rnd m 0 false : Nat) : Int)) ∧ New W w' := fun _ _ _ _ h h1 => rounded_any h h1 (by decide) (by decide)
  have r1 : ∀ ⦃A : Option Addr⦄ ⦃n c : Nat⦄ ⦃W : World⦄, SliceOf repU W W.heap.size A n c (dig m) → n ≤ 200 → Calls Try.prog 63 #[.int .u64 (sgn true), .slice A n c, .int .i64 0, .bool false] W fun e' w' => e' = .returned (.int .u64 ((sgn true + rnd m 0 false : Nat) : Int)) ∧ New W w' := fun _ _ _ _ h h1 => rounded_any h h1 (by decide) (by decide)
  obtain ⟨res, hres⟩ : ∃ res, floatP n = res := ⟨_, rfl⟩
  rw [hres]
  unfold floatP at hres
  rw [hm] at hres
  have LD := Lib.hid ld
  clear ld
  by_cases hn : n < 0
  · rw [decide_eq_true hn] at hres
    rw [hres] at r1
    have hneg : -(n + 1) = (m : Int) - 1 := by omega
    have hme : (m : Int) - 1 + 1 = (m : Int) := by omega
    have hw1 : IntKind.u64.wrap ((m : Int) - 1) = (m : Int) - 1 := by rw [IntKind.wrap_u64]; omega
    have hw2 : IntKind.u64.wrap (m : Int) = (m : Int) := wrapN (by omega)
    have R1 := Lib.hid r1
    have R0 := Lib.hid r0
    have HRES := Lib.hid hres
    have HM := Lib.hid hm
    clear r1 r0 hres hm
    go_enter Try.func48, Try.ntmps48
    go_wp2_with fail
    refine O1.out.mono ?_
    rintro e1 w1 ⟨hn1, A1, k1, c1, rfl, hs1⟩
    have T1 := Lib.hid (R1.out hs1 (by rw [hs1.len]; exact LD.out))
    have HS1 := Lib.hid hs1
    have HN1 := Lib.hid hn1
    clear hs1 hn1
    go_wp2_with fail
    refine T1.out.mono ?_
    rintro e1 w2 ⟨rfl, hn2⟩
    have hn12 := HN1.out.trans hn2
    have HN2 := Lib.hid hn2
    have HN12 := Lib.hid hn12
    clear hn2 hn12
    go_wp2_with fail
    go_ret
    exact ⟨rfl, HN12.out⟩
  · rw [decide_eq_false hn] at hres
    rw [hres] at r0
    obtain rfl : n = (m : Int) := by omega
    have hw2 : IntKind.u64.wrap (m : Int) = (m : Int) := wrapN (by omega)
    have R1 := Lib.hid r1
    have R0 := Lib.hid r0
    have HRES := Lib.hid hres
    have HM := Lib.hid hm
    clear r1 r0 hres hm
    go_enter Try.func48, Try.ntmps48
    go_wp2_with fail
    refine O1.out.mono ?_
    rintro e1 w1 ⟨hn1, A1, k1, c1, rfl, hs1⟩
    have T1 := Lib.hid (R0.out hs1 (by rw [hs1.len]; exact LD.out))
    have HS1 := Lib.hid hs1
    have HN1 := Lib.hid hn1
    clear hs1 hn1
    go_wp2_with fail
    refine T1.out.mono ?_
    rintro e1 w2 ⟨rfl, hn2⟩
    have hn12 := HN1.out.trans hn2
    have HN2 := Lib.hid hn2
    have HN12 := Lib.hid hn12
    clear hn2 hn12
    go_wp2_with fail
    go_ret
    exact ⟨rfl, HN12.out⟩
end Go.Proofs.Ytilioiebecpknaa.Nat5

namespace Go.Proofs.Ytilioiebecpknaa.Nat5
open Go.RowKit Go.Fb Go.NatP
set_option linter.unusedVariables false
open Go.FltP (rnd infR sgn neg mag nanR divP partM partE partM_lt)
theorem div_start {M n : Nat} (hM : M < 2 ^ 181) (hn : n ≠ 0) : M / (n * 2 ^ 185) = 0 ∧ M % (n * 2 ^ 185) = M := by
  have h1 : 2 ^ 181 ≤ 2 ^ 185 := Nat.pow_le_pow_right (by decide) (by decide)
  have h2 : 1 * 2 ^ 185 ≤ n * 2 ^ 185 := Nat.mul_le_mul_right _ (by omega)
  have h3 : M < n * 2 ^ 185 := by omega
  exact ⟨Nat.div_eq_of_lt h3, Nat.mod_eq_of_lt h3⟩
theorem div_split {M n i : Nat} : M = 2 * (M / (n * 2 ^ (i + 1))) * (n * 2 ^ i) + M % (n * 2 ^ (i + 1)) := by
  have h := Nat.div_add_mod M (n * 2 ^ (i + 1))
  have h2 : n * 2 ^ (i + 1) = 2 * (n * 2 ^ i) := by rw [Nat.pow_succ]; rw [← Nat.mul_assoc, Nat.mul_comm _ 2]
  have h3 : 2 * (M / (n * 2 ^ (i + 1))) * (n * 2 ^ i) = n * 2 ^ (i + 1) * (M / (n * 2 ^ (i + 1))) := by
    rw [Nat.mul_comm 2, Nat.mul_assoc, ← h2, Nat.mul_comm]
  rw [h3]
  exact h.symm
theorem div_low {M n i t R Q : Nat} (hn : n ≠ 0) (ht : n * 2 ^ i = t) (hQ : M / (n * 2 ^ (i + 1)) = Q) (hR : M % (n * 2 ^ (i + 1)) = R) (h : R < t) : M / (n * 2 ^ i) = Q * 2 ∧ M % (n * 2 ^ i) = R := by
  have hs := div_split (M := M) (n := n) (i := i)
  rw [hQ, hR, ht] at hs
  rw [ht]
  have h0 : 0 < t := by omega
  constructor
  · rw [hs, Nat.mul_comm _ t, Nat.mul_add_div h0, Nat.div_eq_of_lt h]; omega
  · rw [hs, Nat.mul_comm _ t, Nat.mul_add_mod, Nat.mod_eq_of_lt h]
theorem div_high {M n i t R Q : Nat} (hn : n ≠ 0) (ht : n * 2 ^ i = t) (hQ : M / (n * 2 ^ (i + 1)) = Q) (hR : M % (n * 2 ^ (i + 1)) = R) (h : t ≤ R) : M / (n * 2 ^ i) = Q * 2 + 1 ∧ M % (n * 2 ^ i) = R - t := by
  have hs := div_split (M := M) (n := n) (i := i)
  have hlt : R < n * 2 ^ (i + 1) := by rw [← hR]; exact Nat.mod_lt _ (Nat.mul_pos (by omega) (Nat.pow_pos (by decide)))
  have h2 : n * 2 ^ (i + 1) = 2 * t := by rw [← ht, Nat.pow_succ, ← Nat.mul_assoc, Nat.mul_comm _ 2]
  rw [h2] at hlt
  rw [hQ, hR, ht] at hs
  rw [ht]
  have h0 : 0 < t := by omega
  have hs2 : M = t * (Q * 2 + 1) + (R - t) := by
    rw [Nat.mul_add, Nat.mul_one, Nat.mul_comm t, Nat.mul_comm Q 2]
    omega
  constructor
  · rw [hs2, Nat.mul_add_div h0, Nat.div_eq_of_lt (by omega)]
  · rw [hs2, Nat.mul_add_mod, Nat.mod_eq_of_lt (by omega)]
set_option maxHeartbeats 4000000 in
set_option maxRecDepth 100000 in
theorem div_any {a b : Nat} (ha : a < 18446744073709551616) (hb : b < 18446744073709551616) (w : World) :
    Calls Try.prog 46 #[.int .u64 a, .int .u64 b] w fun e w' => e = .returned (.int .u64 (divP a b)) ∧ New w w' := by
  have hI : infR = 9218868437227405312 := by decide
  have hN : nanR = 9221120237041090560 := by decide
  obtain ⟨res, hres⟩ : ∃ res, divP a b = res := ⟨_, rfl⟩
  rw [hres]
  unfold divP at hres
  rw [hI, hN] at hres
  have hma := mag_bits ha
  have hmb := mag_bits hb
  have hla := mag_lt a
  have hlb := mag_lt b
  have hxo := uxor ha hb
  have hxl : a ^^^ b < 18446744073709551616 := Nat.xor_lt_two_pow (n := 64) ha hb
  have hsx := sgn_bits hxl
  have hsi := sgn_or (neg a ^^ neg b) (r := 9218868437227405312) (by decide)
  rw [neg_xor] at hsx
  have ra : ∀ ⦃A : Option Addr⦄ ⦃n c v : Nat⦄ ⦃e : Int⦄ ⦃W : World⦄ ⦃more : Bool⦄, SliceOf repU W W.heap.size A n c (dig v) → n ≤ 200 → -4000 ≤ e → e ≤ 4000 → Calls Try.prog 63 #[.int .u64 (sgn (neg a ^^ neg b)), .slice A n c, .int .i64 e, .bool more] W fun e' w' => e' = .returned (.int .u64 ((sgn (neg a ^^ neg b) + rnd v e more : Nat) : Int)) ∧ New W w' := fun _ _ _ _ _ _ _ h h1 h2 h3 => rounded_any h h1 h2 h3
  have pa := fun W => parts_any hla W
  have pb := fun W => parts_any hlb W
  have ea := fun h => partE_bounds (m := mag a) h
  have eb := fun h => partE_bounds (m := mag b) h
  have xa := partM_lt (r := mag a)
  have xb := partM_lt (r := mag b)
  have xz : mag b ≠ 0 → partM (mag b) ≠ 0 := fun h h2 => h (Go.FltP.partM_zero.1 h2)
  generalize a ^^^ b = x at *
  generalize mag a = ma at *
  generalize mag b = mb at *
  generalize partM ma = m at *
  generalize partM mb = n at *
  generalize partE ma = e at *
  generalize partE mb = f at *
  generalize sgn (neg a ^^ neg b) = g at *
  have hsi2 : bits BinOp.or IntKind.u64 (g : Int) 9218868437227405312 = ((g + 9218868437227405312 : Nat) : Int) := hsi
  clear hsi hxl
  have RA := Lib.hid ra
  have PA := Lib.hid pa
  have PB := Lib.hid pb
  have EA := Lib.hid ea
  have EB := Lib.hid eb
  have XA := Lib.hid xa
  have XB := Lib.hid xb
  have XZ := Lib.hid xz
  have HI := Lib.hid hI
  have HN := Lib.hid hN
  clear ra pa pb ea eb xa xb xz hI hN
  by_cases c1 : 9218868437227405312 < ma
  · have f1 : decide (9218868437227405312 < (ma : Int)) = true := by rw [decide_eq_true_eq]; omega
    have f2 : decide (9218868437227405312 < ma) = true := by rw [decide_eq_true_eq]; omega
    rw [if_pos (by omega)] at hres
    obtain rfl := hres
    go_enter Try.func46, Try.ntmps46
    go_wp2_with fail
    go_ret
    exact ⟨by first | rfl | simp [Array.getD], Kept.refl _ _⟩
  have f1 : decide (9218868437227405312 < (ma : Int)) = false := by rw [decide_eq_false_iff_not]; omega
  have f2 : decide (9218868437227405312 < ma) = false := by rw [decide_eq_false_iff_not]; omega
  by_cases c2 : 9218868437227405312 < mb
  · have k1 : decide (9218868437227405312 < (mb : Int)) = true := by rw [decide_eq_true_eq]; omega
    have k2 : decide (9218868437227405312 < mb) = true := by rw [decide_eq_true_eq]; omega
    rw [if_pos (by omega)] at hres
    obtain rfl := hres
    go_enter Try.func46, Try.ntmps46
    go_wp2_with fail
    go_ret
    exact ⟨by first | rfl | simp [Array.getD], Kept.refl _ _⟩
  have k1 : decide (9218868437227405312 < (mb : Int)) = false := by rw [decide_eq_false_iff_not]; omega
  have k2 : decide (9218868437227405312 < mb) = false := by rw [decide_eq_false_iff_not]; omega
  by_cases i1 : ma = 9218868437227405312
  · have p1 : ((ma : Int) == 9218868437227405312) = true := by simp; omega
    by_cases i2 : mb = 9218868437227405312
    · have s1 : ((mb : Int) == 9218868437227405312) = true := by simp; omega
      rw [if_pos (by omega)] at hres
      obtain rfl := hres
      go_enter Try.func46, Try.ntmps46
      go_wp2_with fail
      go_ret
      exact ⟨by first | rfl | simp [Array.getD], Kept.refl _ _⟩
    have s1 : ((mb : Int) == 9218868437227405312) = false := by simp; omega
    have r1 : ((ma : Int) == 0) = false := by simp; omega
    rw [if_neg (by omega), if_pos (by omega)] at hres
    rw [hres] at hsi2
    clear hres
    go_enter Try.func46, Try.ntmps46
    go_wp2_with fail
    go_ret
    exact ⟨by first | rfl | simp [Array.getD], Kept.refl _ _⟩
  have p1 : ((ma : Int) == 9218868437227405312) = false := by simp; omega
  by_cases z1 : ma = 0
  · have r1 : ((ma : Int) == 0) = true := by simp; omega
    by_cases z2 : mb = 0
    · have q1 : ((mb : Int) == 0) = true := by simp; omega
      rw [if_pos (by omega)] at hres
      obtain rfl := hres
      go_enter Try.func46, Try.ntmps46
      go_wp2_with fail
      go_ret
      exact ⟨by first | rfl | simp [Array.getD], Kept.refl _ _⟩
    have q1 : ((mb : Int) == 0) = false := by simp; omega
    by_cases i2 : mb = 9218868437227405312
    · have s1 : ((mb : Int) == 9218868437227405312) = true := by simp; omega
      rw [if_neg (by omega), if_neg (by omega), if_pos (by omega)] at hres
      obtain rfl := hres
      go_enter Try.func46, Try.ntmps46
      go_wp2_with fail
      go_ret
      exact ⟨by first | rfl | simp [Array.getD], Kept.refl _ _⟩
    have s1 : ((mb : Int) == 9218868437227405312) = false := by simp; omega
    rw [if_neg (by omega), if_neg (by omega), if_pos (by omega)] at hres
    obtain rfl := hres
    go_enter Try.func46, Try.ntmps46
    go_wp2_with fail
    go_ret
    exact ⟨by first | rfl | simp [Array.getD], Kept.refl _ _⟩
  have r1 : ((ma : Int) == 0) = false := by simp; omega
  by_cases z2 : mb = 0
  · have q1 : ((mb : Int) == 0) = true := by simp; omega
    rw [if_neg (by omega), if_pos (by omega)] at hres
    rw [hres] at hsi2
    clear hres
    go_enter Try.func46, Try.ntmps46
    go_wp2_with fail
    go_ret
    exact ⟨by first | rfl | simp [Array.getD], Kept.refl _ _⟩
  have q1 : ((mb : Int) == 0) = false := by simp; omega
  by_cases i2 : mb = 9218868437227405312
  · have s1 : ((mb : Int) == 9218868437227405312) = true := by simp; omega
    rw [if_neg (by omega), if_neg (by omega), if_pos (by omega)] at hres
    obtain rfl := hres
    go_enter Try.func46, Try.ntmps46
    go_wp2_with fail
    go_ret
    exact ⟨by first | rfl | simp [Array.getD], Kept.refl _ _⟩
  have s1 : ((mb : Int) == 9218868437227405312) = false := by simp; omega
  rw [if_neg (by omega), if_neg (by omega), if_neg (by omega)] at hres
  have ea2 := EA.out (by omega)
  have eb2 := EB.out (by omega)
  have hn0 := XZ.out z2
  have lm := len70 (v := m) (e := 53) (by decide) XA.out
  have ln := len70 (v := n) (e := 53) (by decide) XB.out
  have hM9 : m * 2 ^ 128 < 2 ^ 181 := by
    have h1 := Nat.mul_lt_mul_of_pos_right XA.out (show 0 < 2 ^ 128 by decide)
    rw [← Nat.pow_add] at h1
    exact h1
  have S1 := Lib.hid (fun ⦃A : Option Addr⦄ ⦃n' c : Nat⦄ ⦃W : World⦄ (h : SliceOf repU W W.heap.size A n' c (dig m)) (hn : n' ≤ 100000) => shift_any (k := 128) h (by omega) hn)
  obtain ⟨M, hM⟩ : ∃ M, m * 2 ^ 128 = M := ⟨_, rfl⟩
  rw [hM] at S1 hM9 hres
  have hds := div_start hM9 hn0
  have lM : (dig M).length ≤ 70 := len70 (e := 181) (by decide) hM9
  have lR : ∀ R, R ≤ M → (dig R).length ≤ 70 := fun R h => len70 (e := 181) (by decide) (Nat.lt_of_le_of_lt h hM9)
  have lt : ∀ i, i ≤ 185 → (dig (n * 2 ^ i)).length ≤ 70 := fun i hi => len70 (e := 53 + i) (by omega) (pm_len (j := i) XB.out (Nat.le_refl _))
  have O1 := Lib.hid (fun W => of_any (x := m) (Nat.lt_trans XA.out (by decide)) W)
  have O2 := Lib.hid (fun W => of_any (x := n) (Nat.lt_trans XB.out (by decide)) W)
  have O3 := Lib.hid (fun W => of_any (x := 1) (by decide) W)
  have S2 := Lib.hid (fun (i : Nat) (hi : i ≤ 185) ⦃A : Option Addr⦄ ⦃n' c : Nat⦄ ⦃W : World⦄ (h : SliceOf repU W W.heap.size A n' c (dig n)) (hn : n' ≤ 100000) => shift_any (k := i) h (by omega) hn)
  have T1 := Lib.hid (fun ⦃v : Nat⦄ ⦃A : Option Addr⦄ ⦃n' c : Nat⦄ ⦃W : World⦄ (h : SliceOf repU W W.heap.size A n' c (dig v)) (hn : n' ≤ 1000000) => (show Calls Try.prog 68 #[.slice A n' c, .int .u32 2] W (Num W (v * 2)) from times_any (m := 2) h (by decide) hn))
  clear z1 z2 i1 i2 hM
  have HN0 := Lib.hid hn0
  have LM := Lib.hid lm
  have LN := Lib.hid ln
  have HM9 := Lib.hid hM9
  have HDS := Lib.hid hds
  have LMM := Lib.hid lM
  have LR := Lib.hid lR
  have LT := Lib.hid lt
  clear hn0 lm ln hM9 hds lM lR lt
  go_enter Try.func46, Try.ntmps46
  go_wp2_with fail
  refine (PA.out _).mono ?_
  rintro e1 w1 ⟨rfl, rfl⟩
  go_wp2_with fail
  refine (PB.out _).mono ?_
  rintro e1 w1 ⟨rfl, rfl⟩
  go_wp2_with fail
  refine (O1.out _).mono ?_
  rintro e1 w2 ⟨hn2, A2, k2, c2, rfl, hs2⟩
  have U1 := Lib.hid (S1.out hs2 (by rw [hs2.len]; have := LM.out; omega))
  have HS2 := Lib.hid hs2
  have HN2 := Lib.hid hn2
  clear hs2 hn2
  go_wp2_with fail
  refine U1.out.mono ?_
  rintro e1 w3 ⟨hn3, A3, k3, c3, rfl, hs3⟩
  have hn23 := HN2.out.trans hn3
  have HS3 := Lib.hid hs3
  have HN3 := Lib.hid hn3
  have HN23 := Lib.hid hn23
  clear hs3 hn3 hn23
  go_wp2_with fail
  have hal : New w3 (w3.alloc (.cells #[] 97)) := (Kept.refl _ _).alloc _
  have hs4 : SliceOf repU (w3.alloc (.cells #[] 97)) (w3.alloc (.cells #[] 97)).heap.size (some ⟨w3.heap.size, 0, none⟩) 0 0 (dig 0) := by
    rw [dig_zero]
    exact row_read (r := none) ⟨rfl, .inl ⟨rfl, rfl, rfl⟩⟩ rfl fun d hd => by cases hd
  have hs34 := num_kept HS3.out hal
  have hn24 := HN23.out.trans hal
  generalize w3.alloc (.cells #[] 97) = w4 at *
  have HS4 := Lib.hid hs4
  have HS34 := Lib.hid hs34
  have HN24 := Lib.hid hn24
  have HAL := Lib.hid hal
  clear hs4 hs34 hn24 hal
  go_loopg [12, 13, 14] 185 (fun g s12 s13 s14 wr => ∃ (A : Option Addr) (k c : Nat) (A' : Option Addr) (k' c' : Nat) (R Q : Nat), s14 = .int .i64 ((g : Int) - 1) ∧ s12 = .slice A k c ∧ s13 = .slice A' k' c' ∧ g ≤ 185 ∧ New w1 wr ∧ SliceOf repU wr wr.heap.size A k c (dig R) ∧ SliceOf repU wr wr.heap.size A' k' c' (dig Q) ∧ Hid (M / (n * 2 ^ g) = Q ∧ M % (n * 2 ^ g) = R))
  case atStart => exact ⟨_, _, _, _, _, _, M, 0, rfl, rfl, rfl, Nat.le_refl _, HN24.out, HS34.out, HS4.out, Lib.hid HDS.out⟩
  case round =>
    obtain ⟨A, k, c, A', k', c', R, Q, rfl, rfl, rfl, hg9, hnw, hsr, hsq, hQR⟩ := hrel
    have HQR := hQR
    clear hQR
    have lR1 : (dig R).length ≤ 70 := LR.out R (by rw [← HQR.out.2]; exact Nat.mod_le _ _)
    have lQ1 : (dig Q).length ≤ 70 := LR.out Q (by rw [← HQR.out.1]; exact Nat.div_le_self _ _)
    have lr := hsr.len
    have lq := hsq.len
    have hbr := hsr.bound
    have hk70 : k ≤ 70 := by omega
    have hk71 : k' ≤ 70 := by omega
    clear lR1 lQ1
    by_cases h0 : gk = 0
    · subst h0
      have he2 : M / n = Q ∧ M % n = R := by
        have := HQR.out
        rw [Nat.pow_zero, Nat.mul_one] at this
        exact this
      rw [he2.1, he2.2] at hres
      have R1 := Lib.hid (RA.out (e := e - f - 128) (more := decide (R ≠ 0)) hsq (by omega) (by omega) (by omega))
      rw [hres] at R1
      have hlen0 : decide (0 < (k : Int)) = decide (R ≠ 0) := by
        by_cases hR0 : R = 0
        · subst hR0
          have : k = 0 := by rw [lr, dig_zero]; rfl
          subst this; rfl
        · have : 0 < k := by rw [lr]; exact List.length_pos_iff.2 fun h => hR0 (dig_nil.1 h)
          rw [decide_eq_true (show 0 < (k : Int) by omega), decide_eq_true (show R ≠ 0 from hR0)]
      have hlen1 : decide (0 < k) = decide (R ≠ 0) := by rw [← hlen0]; exact decide_eq_decide.2 (by omega)
      generalize decide (R ≠ 0) = more at *
      clear he2 hres
      have HSR := Lib.hid hsr
      have HSQ := Lib.hid hsq
      have HNW := Lib.hid hnw
      have LR := Lib.hid lr
      have LQ := Lib.hid lq
      clear hsr hsq hnw lr lq
      go_wp2_with fail
      refine R1.out.mono ?_
      rintro e1 w6 ⟨rfl, hn6⟩
      have hn16 := HNW.out.trans hn6
      have HN6 := Lib.hid hn6
      have HN16 := Lib.hid hn16
      clear hn6 hn16
      go_wp2_with fail
      go_ret
      exact ⟨rfl, HN16.out⟩
    · obtain ⟨i, rfl⟩ : ∃ i, gk = i + 1 := ⟨gk - 1, by omega⟩
      have hge : ((i + 1 : Nat) : Int) - 1 = (i : Int) := by omega
      rw [hge]
      clear lr lq h0
      have HSR := Lib.hid hsr
      have HSQ := Lib.hid hsq
      have HNW := Lib.hid hnw
      clear hsr hsq hnw
      go_wp2_with fail
      refine (O2.out _).mono ?_
      rintro e1 w5 ⟨hn5, A5, k5, c5, rfl, hs5⟩
      have U2 := Lib.hid (S2.out i (by omega) hs5 (by rw [hs5.len]; have := LN.out; omega))
      have HS5 := Lib.hid hs5
      have HN5 := Lib.hid hn5
      clear hs5 hn5
      go_wp2_with fail
      refine U2.out.mono ?_
      rintro e1 w6 ⟨hn6, A6, k6, c6, rfl, hs6⟩
      have lt6 := LT.out i (by omega)
      have lk6 := hs6.len
      have hk6 : k6 ≤ 70 := by omega
      clear lt6 lk6
      have hn56 := HN5.out.trans hn6
      have U3 := Lib.hid (T1.out (num_kept HSQ.out hn56) (by omega))
      have HS6 := Lib.hid hs6
      have HN6 := Lib.hid hn6
      have HN56 := Lib.hid hn56
      clear hs6 hn6 hn56
      go_wp2_with fail
      refine U3.out.mono ?_
      rintro e1 w7 ⟨hn7, A7, k7, c7, rfl, hs7⟩
      have hs67 := num_kept HS6.out hn7
      have hn57 := HN56.out.trans hn7
      have hsr7 := num_kept HSR.out hn57
      have U4 := Lib.hid (compare_any hsr7 hs67)
      obtain ⟨t, ht⟩ : ∃ t, n * 2 ^ i = t := ⟨_, rfl⟩
      rw [ht] at hs67 U4
      by_cases hc : R < t
      · have hdl := div_low HN0.out ht HQR.out.1 HQR.out.2 hc
        rw [show cmpN R t = -1 by unfold cmpN; rw [if_pos hc]] at U4
        have HS7 := Lib.hid hs7
        have HS67 := Lib.hid hs67
        have HN57 := Lib.hid hn57
        have HSR7 := Lib.hid hsr7
        have HN7 := Lib.hid hn7
        have HDL := Lib.hid hdl
        have HT := Lib.hid ht
        clear hs7 hs67 hn57 hsr7 hn7 hdl ht
        go_wp2_with fail
        refine U4.out.mono ?_
        rintro e1 w8 ⟨rfl, hn8⟩
        have hn58 := HNW.out.trans (HN57.out.trans hn8)
        have hsr8 := num_kept HSR7.out hn8
        have hs78 := num_kept HS7.out hn8
        have HN8 := Lib.hid hn8
        have HN58 := Lib.hid hn58
        have HSR8 := Lib.hid hsr8
        have HS78 := Lib.hid hs78
        clear hn8 hn58 hsr8 hs78
        go_wp2_with fail
        go_roundg i
        case measure => omega
        case rel => exact ⟨A, k, c, A7, k7, c7, R, Q * 2, by go_num, rfl, rfl, by omega, HN58.out, HSR8.out, HS78.out, Lib.hid HDL.out⟩
      · have hdh := div_high HN0.out ht HQR.out.1 HQR.out.2 (by omega)
        obtain ⟨cc, hcc⟩ : ∃ cc, cmpN R t = cc := ⟨_, rfl⟩
        have hc0 : 0 ≤ cc := by rw [← hcc]; unfold cmpN; rw [if_neg hc]; split <;> decide
        rw [hcc] at U4
        clear hcc
        have hc0d : decide (0 ≤ cc) = true := by rw [decide_eq_true_eq]; exact hc0
        have hlq : (dig (Q * 2)).length ≤ 70 := LR.out _ (by have := Nat.div_le_self M (n * 2 ^ i); rw [hdh.1] at this; omega)
        have lk7 := hs7.len
        have hk7 : k7 ≤ 70 := by omega
        clear lk7 hlq
        have HS7 := Lib.hid hs7
        have HS67 := Lib.hid hs67
        have HN57 := Lib.hid hn57
        have HSR7 := Lib.hid hsr7
        have HN7 := Lib.hid hn7
        have HDH := Lib.hid hdh
        have HT := Lib.hid ht
        clear hs7 hs67 hn57 hsr7 hn7 hdh ht
        go_wp2_with fail
        refine U4.out.mono ?_
        rintro e1 w8 ⟨rfl, hn8⟩
        have hn58 := HN57.out.trans hn8
        have hsr8 := num_kept HSR7.out hn8
        have hs78 := num_kept HS7.out hn8
        have hs68 := num_kept HS67.out hn8
        have U5 := Lib.hid (less_any hsr8 hs68 (by omega) (by omega))
        have HN8 := Lib.hid hn8
        have HN58 := Lib.hid hn58
        have HSR8 := Lib.hid hsr8
        have HS78 := Lib.hid hs78
        have HS68 := Lib.hid hs68
        clear hn8 hn58 hsr8 hs78 hs68
        go_wp2_with fail
        refine U5.out.mono ?_
        rintro e1 w9 ⟨hn9, A9, k9, c9, rfl, hs9⟩
        have hn59 := HN58.out.trans hn9
        have hs79 := num_kept HS78.out hn9
        have HS9 := Lib.hid hs9
        have HN9 := Lib.hid hn9
        have HN59 := Lib.hid hn59
        have HS79 := Lib.hid hs79
        clear hs9 hn9 hn59 hs79
        go_wp2_with fail
        refine (O3.out _).mono ?_
        rintro e1 w10 ⟨hn10, A10, k10, c10, rfl, hs10⟩
        have hn510 := HN59.out.trans hn10
        have hs910 := num_kept HS9.out hn10
        have hl1 : (dig 1).length ≤ 70 := Nat.le_trans (dig_len_lt (v := 1) (k := 1) (by decide)) (by decide)
        have U6 := Lib.hid (sum_any (num_kept HS79.out hn10) hs10 (by omega) (by rw [hs10.len]; omega))
        have HN10 := Lib.hid hn10
        have HS10 := Lib.hid hs10
        have HN510 := Lib.hid hn510
        have HS910 := Lib.hid hs910
        have HL1 := Lib.hid hl1
        clear hn10 hs10 hn510 hs910 hl1
        go_wp2_with fail
        refine U6.out.mono ?_
        rintro e1 w11 ⟨hn11, A11, k11, c11, rfl, hs11⟩
        have hn511 := HNW.out.trans (HN510.out.trans hn11)
        have hs911 := num_kept HS910.out hn11
        have HN11 := Lib.hid hn11
        have HS11 := Lib.hid hs11
        have HN511 := Lib.hid hn511
        have HS911 := Lib.hid hs911
        clear hn11 hs11 hn511 hs911
        go_wp2_with fail
        go_roundg i
        case measure => omega
        case rel => exact ⟨A9, k9, c9, A11, k11, c11, R - t, Q * 2 + 1, by go_num, rfl, rfl, by omega, HN511.out, HS911.out, HS11.out, Lib.hid HDH.out⟩
end Go.Proofs.Ytilioiebecpknaa.Nat5

namespace Go.Proofs.Ytilioiebecpknaa.Nat5
open Go.RowKit Go.Fb Go.NatP
set_option linter.unusedVariables false
open Go.FltP (infR sgn neg mag partM partE partM_lt wholeP wholeM wholeM_lt edgeR)
set_option maxHeartbeats 4000000 in
set_option maxRecDepth 100000 in
theorem rwhole_any {a : Nat} (ha : a < 18446744073709551616) (w : World) :
    Calls Try.prog 49 #[.int .u64 a] w fun e w' => e = .returned (.int .i64 (wholeP a)) ∧ w' = w := by
  have hI : infR = 9218868437227405312 := by decide
  have hE : edgeR = 4890909195324358656 := by decide
  obtain ⟨res, hres⟩ : ∃ res, wholeP a = res := ⟨_, rfl⟩
  rw [hres]
  unfold wholeP at hres
  rw [hI, hE] at hres
  have na := isNaN_any ha w
  rw [hI] at na
  have hma := mag_bits ha
  have hla := mag_lt a
  have hsa := sgn_bits ha
  have pa := fun W => parts_any hla W
  have ea := fun h => partE_bounds (m := mag a) h
  have xa := partM_lt (r := mag a)
  have wl : ∀ h : mag a < 4890909195324358656, wholeM (mag a) < 2 ^ 63 := fun h => wholeM_lt (by rw [hE]; exact h)
  have ehi : mag a < 4890909195324358656 → partE (mag a) ≤ 10 := by
    intro h
    unfold partE
    split <;> omega
  have wd : wholeM (mag a) = partM (mag a) * 2 ^ (partE (mag a)).toNat / 2 ^ (-partE (mag a)).toNat := rfl
  have hsn : bits BinOp.and IntKind.u64 (a : Int) 9223372036854775808 = (if neg a = true then 9223372036854775808 else 0) := by
    rw [hsa]
    cases neg a <;> rfl
  clear hsa
  generalize neg a = sa at *
  generalize mag a = ma at *
  generalize wholeM ma = q at *
  generalize partM ma = m at *
  generalize partE ma = e at *
  by_cases c1 : 9218868437227405312 < ma
  · rw [if_pos c1] at hres
    obtain rfl := hres
    rw [decide_eq_true c1] at na
    have NA := Lib.hid na
    have PA := Lib.hid pa
    have EA := Lib.hid ea
    have XA := Lib.hid xa
    have WL := Lib.hid wl
    have WD := Lib.hid wd
    have HI := Lib.hid hI
    have HE := Lib.hid hE
    have EHI := Lib.hid ehi
    clear na pa ea xa wl wd hI hE ehi
    clear hsn
    go_enter Try.func49, Try.ntmps49
    go_wp2_with fail
    refine NA.out.mono ?_
    rintro e1 w1 ⟨rfl, rfl⟩
    go_wp2_with fail
    go_ret
    exact ⟨rfl, rfl⟩
  rw [if_neg c1] at hres
  rw [decide_eq_false c1] at na
  by_cases c2 : 4890909195324358656 ≤ ma
  · rw [if_pos c2] at hres
    have d1 : decide (4890909195324358656 ≤ (ma : Int)) = true := by rw [decide_eq_true_eq]; omega
    have d2 : decide (4890909195324358656 ≤ ma) = true := by rw [decide_eq_true_eq]; omega
    have NA := Lib.hid na
    have PA := Lib.hid pa
    have EA := Lib.hid ea
    have XA := Lib.hid xa
    have WL := Lib.hid wl
    have WD := Lib.hid wd
    have HI := Lib.hid hI
    have HE := Lib.hid hE
    have EHI := Lib.hid ehi
    clear na pa ea xa wl wd hI hE ehi
    cases sa
    · simp only [if_false, Bool.false_eq_true] at hres hsn
      obtain rfl := hres
      go_enter Try.func49, Try.ntmps49
      go_wp2_with fail
      refine NA.out.mono ?_
      rintro e1 w1 ⟨rfl, rfl⟩
      go_wp2_with fail
      go_ret
      exact ⟨rfl, rfl⟩
    · simp only [if_true] at hres hsn
      obtain rfl := hres
      go_enter Try.func49, Try.ntmps49
      go_wp2_with fail
      refine NA.out.mono ?_
      rintro e1 w1 ⟨rfl, rfl⟩
      go_wp2_with fail
      go_ret
      exact ⟨rfl, rfl⟩
  rw [if_neg c2] at hres
  have d1 : decide (4890909195324358656 ≤ (ma : Int)) = false := by rw [decide_eq_false_iff_not]; omega
  have d2 : decide (4890909195324358656 ≤ ma) = false := by rw [decide_eq_false_iff_not]; omega
  have hq9 := wl (by omega)
  have he := ehi (by omega)
  have he0 := (ea (by omega)).1
  obtain ⟨E, hE2⟩ : ∃ E : Nat, e.toNat = E := ⟨_, rfl⟩
  obtain ⟨F, hF⟩ : ∃ F : Nat, (-e).toNat = F := ⟨_, rfl⟩
  rw [hE2, hF] at wd
  have hE9 : E ≤ 10 := by omega
  have heE : (0 < E → e = (E : Int)) ∧ (E = 0 → e = -(F : Int)) ∧ (0 < E → F = 0) := by omega
  have hF9 : F ≤ 1074 := by omega
  have hq8 : q < 9223372036854775808 := Nat.lt_of_lt_of_le hq9 (by decide)
  have hM9 : ∀ i, i ≤ E → m * 2 ^ i ≤ 9223372036854775808 := by
    intro i hi
    have h1 : 2 ^ i ≤ 2 ^ 10 := Nat.pow_le_pow_right (by decide) (by omega)
    have h2 : m * 2 ^ i ≤ 2 ^ 53 * 2 ^ 10 := Nat.mul_le_mul (Nat.le_of_lt xa) h1
    omega
  have NA := Lib.hid na
  have PA := Lib.hid pa
  have EA := Lib.hid ea
  have XA := Lib.hid xa
  have WL := Lib.hid wl
  have WD := Lib.hid wd
  have HI := Lib.hid hI
  have HE := Lib.hid hE
  have EHI := Lib.hid ehi
  have HE2 := Lib.hid hE2
  have HF := Lib.hid hF
  have HQ9 := Lib.hid hq9
  have HM9 := Lib.hid hM9
  have HEE := Lib.hid heE
  clear na pa ea xa wl wd hI hE ehi hE2 hF hq9 hM9 heE
  go_enter Try.func49, Try.ntmps49
  go_wp2_with fail
  refine NA.out.mono ?_
  rintro e1 w1 ⟨rfl, rfl⟩
  go_wp2_with fail
  refine (PA.out _).mono ?_
  rintro e1 w1 ⟨rfl, rfl⟩
  go_wp2_with fail
  go_loopg [6, 7] E (fun g s6 s7 wr => ∃ (i x : Nat), i + g = E ∧ s7 = .int .i64 (i : Int) ∧ s6 = .int .u64 x ∧ wr = w1 ∧ Hid (m * 2 ^ i = x))
  case atStart => exact ⟨0, m, by omega, rfl, rfl, rfl, Lib.hid (by rw [Nat.pow_zero, Nat.mul_one])⟩
  case round =>
    obtain ⟨i, x, hig, rfl, rfl, rfl, hx⟩ := hrel
    have HX := hx
    clear hx
    by_cases hi : i < E
    · have hx9 := HM9.out i (by omega)
      rw [HX.out] at hx9
      have hx8 := HM9.out (i + 1) (by omega)
      obtain ⟨y, hy⟩ : ∃ y, 2 * x = y := ⟨_, rfl⟩
      have hmy : m * 2 ^ (i + 1) = y := by rw [← hy, ← HX.out, Nat.pow_succ, Nat.mul_comm 2, Nat.mul_assoc]
      rw [hmy] at hx8
      have hye : 2 * (x : Int) = (y : Int) := by omega
      have hyw : IntKind.u64.wrap (y : Int) = (y : Int) := wrapN (by omega)
      have hie : (i : Int) < e := by have := (HEE.out).1 (by omega); omega
      have hid : decide ((i : Int) < e) = true := by rw [decide_eq_true_eq]; exact hie
      clear hy
      have HMY := Lib.hid hmy
      clear hmy
      go_wp2_with fail
      go_roundg (E - (i + 1))
      case measure => omega
      case rel => exact ⟨i + 1, y, by omega, by go_num, rfl, rfl, HMY⟩
    · obtain rfl : i = E := by omega
      have hid : decide ((i : Int) < e) = false := by rw [decide_eq_false_iff_not]; have := (HEE.out); omega
      go_wp2_with fail
      clear hid
      have hdv := WD.out
      rw [HX.out] at hdv
      have HDV := Lib.hid hdv
      clear hdv
      go_loopg [6, 8] F (fun g s6 s8 w2 => ∃ (j y : Nat), j + g = F ∧ s8 = .int .i64 (-(j : Int)) ∧ s6 = .int .u64 y ∧ w2 = wr ∧ Hid (x / 2 ^ j = y))
      case atStart => exact ⟨0, x, by omega, rfl, rfl, rfl, Lib.hid (by rw [Nat.pow_zero, Nat.div_one])⟩
      case round =>
        obtain ⟨j, y, hjg, rfl, rfl, rfl, hy⟩ := hrel
        have HY := hy
        clear hy
        have hx9 := HM9.out i (Nat.le_refl _)
        rw [HX.out] at hx9
        have hy9 : y ≤ 9223372036854775808 := by rw [← HY.out]; exact Nat.le_trans (Nat.div_le_self _ _) hx9
        have hyw : IntKind.u64.wrap (y : Int) = (y : Int) := wrapN (by omega)
        by_cases hj : j < F
        · have hed : decide (e < -(j : Int)) = true := by rw [decide_eq_true_eq]; have := HEE.out; omega
          by_cases h0 : 0 < y
          · have h0d : decide (0 < y) = true := by rw [decide_eq_true_eq]; exact h0
            obtain ⟨z, hz⟩ : ∃ z, y / 2 = z := ⟨_, rfl⟩
            have hze : Int.tdiv (y : Int) 2 = (z : Int) := by rw [Int.tdiv_eq_ediv_of_nonneg (by omega)]; omega
            have hxz : x / 2 ^ (j + 1) = z := by rw [Nat.pow_succ, ← Nat.div_div_eq_div_mul, HY.out, hz]
            have hjn : -(j : Int) - 1 = -((j + 1 : Nat) : Int) := by omega
            have hzw : IntKind.u64.wrap (z : Int) = (z : Int) := wrapN (by omega)
            clear hz
            have HXZ := Lib.hid hxz
            clear hxz
            go_wp2_with fail
            go_roundg (F - (j + 1))
            case measure => omega
            case rel => exact ⟨j + 1, z, by omega, by go_num, rfl, rfl, HXZ⟩
          · have h0d : decide (0 < y) = false := by rw [decide_eq_false_iff_not]; exact h0
            have hqy : q = y := by
              have h1 : y = 0 := by omega
              rw [HDV.out, h1]
              have h2 := HY.out
              rw [h1] at h2
              have h3 : 2 ^ j ≤ 2 ^ F := Nat.pow_le_pow_right (by decide) (by omega)
              have h4 := Nat.div_le_div_left (a := x) h3 (Nat.pow_pos (show 0 < 2 by decide))
              rw [h2] at h4
              exact Nat.le_antisymm h4 (Nat.zero_le _)
            subst hqy
            clear hjg
            have hqw : IntKind.i64.wrap (q : Int) = (q : Int) := by rw [IntKind.wrap_i64]; omega
            cases sa
            · simp only [if_false, Bool.false_eq_true] at hres hsn
              obtain rfl := hres
              go_wp2_with fail
              go_ret
              exact ⟨rfl, rfl⟩
            · simp only [if_true] at hres hsn
              obtain rfl := hres
              have hqn : IntKind.i64.wrap (-(q : Int)) = -(q : Int) := by rw [IntKind.wrap_i64]; omega
              go_wp2_with fail
              go_ret
              exact ⟨rfl, rfl⟩
        · have hed : decide (e < -(j : Int)) = false := by rw [decide_eq_false_iff_not]; have := HEE.out; omega
          have hqy : q = y := by
            rw [HDV.out, ← HY.out]
            congr 2
            omega
          subst hqy
          clear hjg
          have hqw : IntKind.i64.wrap (q : Int) = (q : Int) := by rw [IntKind.wrap_i64]; omega
          cases sa
          · simp only [if_false, Bool.false_eq_true] at hres hsn
            obtain rfl := hres
            go_wp2_with fail
            go_ret
            exact ⟨rfl, rfl⟩
          · simp only [if_true] at hres hsn
            obtain rfl := hres
            have hqn : IntKind.i64.wrap (-(q : Int)) = -(q : Int) := by rw [IntKind.wrap_i64]; omega
            go_wp2_with fail
            go_ret
            exact ⟨rfl, rfl⟩
end Go.Proofs.Ytilioiebecpknaa.Nat5

namespace Go.Proofs.Ytilioiebecpknaa.Nat5
open Go.RowKit Go.Fb Go.NatP
set_option linter.unusedVariables false
open Go.FltP (infR nanR mag neg addP subP mulP divP belowP floatP wholeP flip)
open _root_.Go.Proofs.Ytilioiebecpknaa.Cpu (ub ub_lt fltV fltE nan_lit)
theorem flip_bits {y : Nat} (hy : y < 18446744073709551616) : bits BinOp.xor IntKind.u64 (y : Int) 9223372036854775808 = ((flip y : Nat) : Int) := by
  have h := uxor (x := y) (y := 9223372036854775808) hy (by decide)
  have h2 : y ^^^ 9223372036854775808 = flip y := by
    obtain ⟨f1, f2, f3⟩ := Go.FltP.flip_parts (a := y) hy
    refine Go.FltP.eq_of_mag (Nat.xor_lt_two_pow (n := 64) hy (by decide)) f3 ?_ ?_
    · rw [f1]
      unfold mag
      rw [Nat.xor_mod_two_pow]
      exact Nat.xor_zero _
    · rw [f2, neg_xor]
      exact Bool.xor_true _
  rw [h2] at h
  exact h
set_option maxHeartbeats 2000000 in
set_option maxRecDepth 100000 in
theorem ref5_any (op b c : Int) (h1 : -9223372036854775808 ≤ b) (h2 : b ≤ 9223372036854775807) (w : World) :
    Calls Try.prog 35 #[.int .i64 op, .int .i64 b, .int .i64 c] w fun e w' => e = .returned (.tuple #[.int .i64 (fltV op b c), .int .i64 (fltE op)]) ∧ New w w' := by
  have hbl := ub_lt b
  have hcl := ub_lt c
  have hub : IntKind.u64.wrap b = ((ub b : Nat) : Int) := by unfold ub; rw [IntKind.wrap_u64]; omega
  have huc : IntKind.u64.wrap c = ((ub c : Nat) : Int) := by unfold ub; rw [IntKind.wrap_u64]; omega
  obtain ⟨V, hV⟩ : ∃ V, fltV op b c = V := ⟨_, rfl⟩
  obtain ⟨E, hE⟩ : ∃ E, fltE op = E := ⟨_, rfl⟩
  rw [hV, hE]
  unfold fltV at hV
  unfold fltE at hE
  have hfl := flip_bits hcl
  have hn5 := nan_lit
  have hI : infR = 9218868437227405312 := by decide
  have fp := (Go.FltP.flip_parts (a := ub c) hcl).2.2
  generalize ub b = x at *
  generalize ub c = y at *
  have A1 := Lib.hid (add_any hbl hcl w)
  have A2 := Lib.hid (fun W => add_any hbl fp W)
  have A3 := Lib.hid (mul_any hbl hcl w)
  have A4 := Lib.hid (div_any hbl hcl w)
  have A5 := Lib.hid (below_any hbl hcl w)
  have A6 := Lib.hid (rfloat_any h1 h2 w)
  have A7 := Lib.hid (rwhole_any hbl w)
  have A8 := Lib.hid (isNaN_any hcl w)
  have HN5 := Lib.hid hn5
  have HI := Lib.hid hI
  have FP := Lib.hid fp
  have HBL := Lib.hid hbl
  have HCL := Lib.hid hcl
  clear hn5 hI fp hbl hcl
  by_cases o15 : op = 15
  · rw [if_pos o15] at hV
    rw [if_pos (by omega)] at hE
    subst o15
    subst hE
    generalize addP x y = r at *
    go_enter Try.func35, Try.ntmps35
    go_wp2_with fail
    refine A1.out.mono ?_
    rintro e1 w1 ⟨rfl, hn1⟩
    have HN1 := Lib.hid hn1
    clear hn1
    go_wp2_with fail
    go_ret2
    exact ⟨rfl, HN1.out⟩
  rw [if_neg o15] at hV
  have g15 : (op == 15) = false := by simpa using o15
  by_cases o16 : op = 16
  · rw [if_pos o16] at hV
    rw [if_pos (by omega)] at hE
    subst o16
    subst hE
    unfold subP at hV
    by_cases hc : infR < mag y
    · rw [if_pos hc, HN5.out] at hV
      subst hV
      rw [decide_eq_true hc] at A8
      clear hc
      go_enter Try.func35, Try.ntmps35
      go_wp2_with fail
      refine A8.out.mono ?_
      rintro e1 w1 ⟨rfl, rfl⟩
      go_wp2_with fail
      go_ret2
      exact ⟨rfl, Kept.refl _ _⟩
    · rw [if_neg hc] at hV
      rw [decide_eq_false hc] at A8
      clear hc
      generalize flip y = z at *
      generalize addP x z = r at *
      go_enter Try.func35, Try.ntmps35
      go_wp2_with fail
      refine A8.out.mono ?_
      rintro e1 w1 ⟨rfl, rfl⟩
      go_wp2_with fail
      refine (A2.out _).mono ?_
      rintro e1 w2 ⟨rfl, hn1⟩
      have HN1 := Lib.hid hn1
      clear hn1
      go_wp2_with fail
      go_ret2
      exact ⟨rfl, HN1.out⟩
  rw [if_neg o16] at hV
  have g16 : (op == 16) = false := by simpa using o16
  by_cases o17 : op = 17
  · rw [if_pos o17] at hV
    rw [if_pos (by omega)] at hE
    subst o17
    subst hE
    generalize mulP x y = r at *
    go_enter Try.func35, Try.ntmps35
    go_wp2_with fail
    refine A3.out.mono ?_
    rintro e1 w1 ⟨rfl, hn1⟩
    have HN1 := Lib.hid hn1
    clear hn1
    go_wp2_with fail
    go_ret2
    exact ⟨rfl, HN1.out⟩
  rw [if_neg o17] at hV
  have g17 : (op == 17) = false := by simpa using o17
  by_cases o18 : op = 18
  · rw [if_pos o18] at hV
    rw [if_pos (by omega)] at hE
    subst o18
    subst hE
    generalize divP x y = r at *
    go_enter Try.func35, Try.ntmps35
    go_wp2_with fail
    refine A4.out.mono ?_
    rintro e1 w1 ⟨rfl, hn1⟩
    have HN1 := Lib.hid hn1
    clear hn1
    go_wp2_with fail
    go_ret2
    exact ⟨rfl, HN1.out⟩
  rw [if_neg o18] at hV
  have g18 : (op == 18) = false := by simpa using o18
  by_cases o19 : op = 19
  · rw [if_pos o19] at hV
    rw [if_pos (by omega)] at hE
    subst o19
    subst hE
    rw [hV] at A5
    clear hV
    go_enter Try.func35, Try.ntmps35
    go_wp2_with fail
    refine A5.out.mono ?_
    rintro e1 w1 ⟨rfl, rfl⟩
    go_wp2_with fail
    go_ret2
    exact ⟨rfl, Kept.refl _ _⟩
  rw [if_neg o19] at hV
  have g19 : (op == 19) = false := by simpa using o19
  by_cases o20 : op = 20
  · rw [if_pos o20] at hV
    rw [if_pos (by omega)] at hE
    subst o20
    subst hE
    generalize floatP b = r at *
    go_enter Try.func35, Try.ntmps35
    go_wp2_with fail
    refine A6.out.mono ?_
    rintro e1 w1 ⟨rfl, hn1⟩
    have HN1 := Lib.hid hn1
    clear hn1
    go_wp2_with fail
    go_ret2
    exact ⟨rfl, HN1.out⟩
  rw [if_neg o20] at hV
  have g20 : (op == 20) = false := by simpa using o20
  by_cases o21 : op = 21
  · rw [if_pos o21] at hV
    rw [if_pos (by omega)] at hE
    subst o21
    subst hE
    rw [hV] at A7
    clear hV
    go_enter Try.func35, Try.ntmps35
    go_wp2_with fail
    refine A7.out.mono ?_
    rintro e1 w1 ⟨rfl, rfl⟩
    go_wp2_with fail
    go_ret2
    exact ⟨rfl, Kept.refl _ _⟩
  rw [if_neg o21] at hV
  have g21 : (op == 21) = false := by simpa using o21
  rw [if_neg (by omega)] at hE
  subst hV
  subst hE
  clear o15 o16 o17 o18 o19 o20 o21
  go_enter Try.func35, Try.ntmps35
  go_wp2_with fail
  go_ret2
  exact ⟨rfl, Kept.refl _ _⟩
end Go.Proofs.Ytilioiebecpknaa.Nat5
