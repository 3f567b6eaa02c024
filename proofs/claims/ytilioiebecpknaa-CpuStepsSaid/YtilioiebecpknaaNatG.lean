/- The walk of the reference's add (layer 5). -/
import Derived.Test.YtilioiebecpknaaNatF
namespace Go.Proofs.Ytilioiebecpknaa.Nat5
open Go.RowKit Go.Fb Go.NatP
set_option linter.unusedVariables false
open Go.FltP (rnd infR sgn neg mag nanR addP addN partM partE partM_lt)
theorem len_of {v k e : Nat} (h : v < 2 ^ e) (he : e ≤ 32 * k) : (dig v).length ≤ k := dig_len_lt (k := k) (by rw [B_pow]; exact Nat.lt_of_lt_of_le h (Nat.pow_le_pow_right (by decide) he))
theorem len70 {v e : Nat} (he : e ≤ 2240) (h : v < 2 ^ e) : (dig v).length ≤ 70 := len_of h (by omega)
theorem pm_len {m j e : Nat} (hm : m < 2 ^ 53) (hj : 53 + j ≤ e) : m * 2 ^ j < 2 ^ e := by
  have h1 : m * 2 ^ j < 2 ^ 53 * 2 ^ j := Nat.mul_lt_mul_of_pos_right hm (Nat.pow_pos (by decide))
  rw [← Nat.pow_add] at h1
  exact Nat.lt_of_lt_of_le h1 (Nat.pow_le_pow_right (by decide) hj)
theorem pm_sum {x y e : Nat} (hx : x < 2 ^ e) (hy : y < 2 ^ e) : x + y < 2 ^ (e + 1) := by
  rw [Nat.pow_succ]
  omega
theorem partE_bounds {m : Nat} (h : m < 9218868437227405312) : -1074 ≤ partE m ∧ partE m ≤ 971 := by
  unfold partE
  split <;> omega
theorem sgn_bits {a : Nat} (ha : a < 18446744073709551616) : bits BinOp.and IntKind.u64 (a : Int) 9223372036854775808 = ((sgn (neg a) : Nat) : Int) := by
  have h := uband (x := a) (y := 9223372036854775808) ha (by decide)
  have h2 : a &&& 9223372036854775808 = sgn (neg a) := by
    have h3 : a &&& 2 ^ 63 = a / 2 ^ 63 % 2 * 2 ^ 63 := by
      apply Nat.eq_of_testBit_eq
      intro i
      rw [Nat.testBit_and, Nat.testBit_two_pow, Nat.testBit_mul_two_pow]
      by_cases hi : 63 = i
      · subst hi
        simp [Nat.testBit]
        rw [Nat.shiftRight_eq_div_pow]
      · by_cases hl : 63 ≤ i
        · obtain ⟨j, hj⟩ : ∃ j, i - 63 = j + 1 := ⟨i - 64, by omega⟩
          rw [hj]
          have : a / 2 ^ 63 % 2 < 2 := Nat.mod_lt _ (by decide)
          have h5 : (a / 2 ^ 63 % 2).testBit (j + 1) = false := Nat.testBit_lt_two_pow (Nat.lt_of_lt_of_le this (by
            have : 2 ^ 1 ≤ 2 ^ (j + 1) := Nat.pow_le_pow_right (by decide) (by omega)
            omega))
          simp [hi, h5]
        · simp [hi, hl]
    show a &&& 2 ^ 63 = _
    rw [h3]
    unfold sgn neg
    have : a / 2 ^ 63 % 2 = 0 ∨ a / 2 ^ 63 % 2 = 1 := by omega
    rcases this with c | c <;> rw [c] <;> rfl
  rw [h2] at h
  exact h
set_option maxHeartbeats 4000000 in
set_option maxRecDepth 100000 in
theorem add_any {a b : Nat} (ha : a < 18446744073709551616) (hb : b < 18446744073709551616) (w : World) :
    Calls Try.prog 43 #[.int .u64 a, .int .u64 b] w fun e w' => e = .returned (.int .u64 (addP a b)) ∧ New w w' := by
  have hI : infR = 9218868437227405312 := by decide
  have hN : nanR = 9221120237041090560 := by decide
  obtain ⟨res, hres⟩ : ∃ res, addP a b = res := ⟨_, rfl⟩
  rw [hres]
  unfold addP at hres
  rw [hI, hN] at hres
  have na := fun W => isNaN_any ha W
  have nb := fun W => isNaN_any hb W
  rw [hI] at na nb
  have hma := mag_bits ha
  have hmb := mag_bits hb
  have hla := mag_lt a
  have hlb := mag_lt b
  have hsa := sgn_bits ha
  have hsb := sgn_bits hb
  have hand : bits BinOp.and IntKind.u64 (a : Int) (b : Int) = ((a &&& b : Nat) : Int) := uband ha hb
  have hab : mag a = 0 → mag b = 0 → a &&& b = (if neg a = true ∧ neg b = true then 2 ^ 63 else 0) := by
    intro h1 h2
    have e1 := Go.FltP.mag_split ha
    have e2 := Go.FltP.mag_split hb
    rw [h1] at e1
    rw [h2] at e2
    rw [e1, e2]
    cases neg a <;> cases neg b <;> decide
  have ra : ∀ ⦃A : Option Addr⦄ ⦃n c v : Nat⦄ ⦃e : Int⦄ ⦃W : World⦄, SliceOf repU W W.heap.size A n c (dig v) → n ≤ 200 → -4000 ≤ e → e ≤ 4000 → Calls Try.prog 63 #[.int .u64 (sgn (neg a)), .slice A n c, .int .i64 e, .bool false] W fun e' w' => e' = .returned (.int .u64 ((sgn (neg a) + rnd v e false : Nat) : Int)) ∧ New W w' := fun _ _ _ _ _ _ h h1 h2 h3 => rounded_any h h1 h2 h3
  have rb : ∀ ⦃A : Option Addr⦄ ⦃n c v : Nat⦄ ⦃e : Int⦄ ⦃W : World⦄, SliceOf repU W W.heap.size A n c (dig v) → n ≤ 200 → -4000 ≤ e → e ≤ 4000 → Calls Try.prog 63 #[.int .u64 (sgn (neg b)), .slice A n c, .int .i64 e, .bool false] W fun e' w' => e' = .returned (.int .u64 ((sgn (neg b) + rnd v e false : Nat) : Int)) ∧ New W w' := fun _ _ _ _ _ _ h h1 h2 h3 => rounded_any h h1 h2 h3
  have hst : (sgn (neg a) = sgn (neg b)) ↔ (neg a = neg b) := by cases neg a <;> cases neg b <;> decide
  have pa := fun W => parts_any hla W
  have pb := fun W => parts_any hlb W
  have ea := fun h => partE_bounds (m := mag a) h
  have eb := fun h => partE_bounds (m := mag b) h
  have xa := partM_lt (r := mag a)
  have xb := partM_lt (r := mag b)
  unfold addN at hres
  generalize mag a = ma at *
  generalize mag b = mb at *
  generalize partM ma = m at *
  generalize partM mb = n at *
  generalize partE ma = e at *
  generalize partE mb = f at *
  generalize sgn (neg a) = ga at *
  generalize sgn (neg b) = gb at *
  have O1 := Lib.hid (fun x (hx : x < 18446744073709551616) W => of_any hx W)
  have NA := Lib.hid na
  have NB := Lib.hid nb
  have RA := Lib.hid ra
  have RB := Lib.hid rb
  have PA := Lib.hid pa
  have PB := Lib.hid pb
  have HST := Lib.hid hst
  have HAB := Lib.hid hab
  have EA := Lib.hid ea
  have EB := Lib.hid eb
  have XA := Lib.hid xa
  have XB := Lib.hid xb
  have HI := Lib.hid hI
  have HN := Lib.hid hN
  clear na nb ra rb pa pb hst hab ea eb xa xb hI hN
  by_cases c1 : 9218868437227405312 < ma
  · rw [if_pos (.inl c1)] at hres
    obtain rfl := hres
    have N1 := Lib.hid (NA.out w)
    rw [decide_eq_true c1] at N1
    go_enter Try.func43, Try.ntmps43
    go_wp2_with fail
    refine N1.out.mono ?_
    rintro e1 w1 ⟨rfl, rfl⟩
    go_wp2_with fail
    go_ret
    exact ⟨rfl, Kept.refl _ _⟩
  have N1 := Lib.hid (NA.out w)
  rw [decide_eq_false c1] at N1
  by_cases c2 : 9218868437227405312 < mb
  · rw [if_pos (.inr (.inl c2))] at hres
    obtain rfl := hres
    have N2 := Lib.hid (NB.out w)
    rw [decide_eq_true c2] at N2
    go_enter Try.func43, Try.ntmps43
    go_wp2_with fail
    refine N1.out.mono ?_
    rintro e1 w1 ⟨rfl, rfl⟩
    go_wp2_with fail
    refine N2.out.mono ?_
    rintro e1 w1 ⟨rfl, rfl⟩
    go_wp2_with fail
    go_ret
    exact ⟨rfl, Kept.refl _ _⟩
  have N2 := Lib.hid (NB.out w)
  rw [decide_eq_false c2] at N2
  by_cases i1 : ma = 9218868437227405312
  · have i1d : ((ma : Int) == 9218868437227405312) = true := by simp; omega
    by_cases i2 : mb = 9218868437227405312
    · have i2d : ((mb : Int) == 9218868437227405312) = true := by simp; omega
      by_cases i3 : a = b
      · have i3d : ((a : Int) == (b : Int)) = true := by simp; omega
        rw [if_neg (by omega), if_pos i1] at hres
        have hr : a = res := hres
        clear hres
        have i3e := hr
        have I3E := Lib.hid i3e
        clear i3e
        clear i3 hr
        go_enter Try.func43, Try.ntmps43
        go_wp2_with fail
        refine N1.out.mono ?_
        rintro e1 w1 ⟨rfl, rfl⟩
        go_wp2_with fail
        refine N2.out.mono ?_
        rintro e1 w1 ⟨rfl, rfl⟩
        go_wp2_with fail
        go_ret
        exact ⟨by (rw [I3E.out]; first | rfl | simp [Array.getD]), Kept.refl _ _⟩
      · have i3d : ((a : Int) == (b : Int)) = false := by simp; omega
        rw [if_pos (by omega)] at hres
        obtain rfl := hres
        clear i3
        go_enter Try.func43, Try.ntmps43
        go_wp2_with fail
        refine N1.out.mono ?_
        rintro e1 w1 ⟨rfl, rfl⟩
        go_wp2_with fail
        refine N2.out.mono ?_
        rintro e1 w1 ⟨rfl, rfl⟩
        go_wp2_with fail
        go_ret
        exact ⟨rfl, Kept.refl _ _⟩
    · have i2d : ((mb : Int) == 9218868437227405312) = false := by simp; omega
      rw [if_neg (by omega), if_pos i1] at hres
      have i3e := hres
      have I3E := Lib.hid i3e
      clear i3e
      clear hres
      go_enter Try.func43, Try.ntmps43
      go_wp2_with fail
      refine N1.out.mono ?_
      rintro e1 w1 ⟨rfl, rfl⟩
      go_wp2_with fail
      refine N2.out.mono ?_
      rintro e1 w1 ⟨rfl, rfl⟩
      go_wp2_with fail
      go_ret
      exact ⟨by (rw [I3E.out]; first | rfl | simp [Array.getD]), Kept.refl _ _⟩
  have i1d : ((ma : Int) == 9218868437227405312) = false := by simp; omega
  by_cases i2 : mb = 9218868437227405312
  · have i2d : ((mb : Int) == 9218868437227405312) = true := by simp; omega
    rw [if_neg (by omega), if_neg i1, if_pos i2] at hres
    have i3e := hres
    have I3E := Lib.hid i3e
    clear i3e
    clear hres
    go_enter Try.func43, Try.ntmps43
    go_wp2_with fail
    refine N1.out.mono ?_
    rintro e1 w1 ⟨rfl, rfl⟩
    go_wp2_with fail
    refine N2.out.mono ?_
    rintro e1 w1 ⟨rfl, rfl⟩
    go_wp2_with fail
    go_ret
    exact ⟨by (rw [I3E.out]; first | rfl | simp [Array.getD]), Kept.refl _ _⟩
  have i2d : ((mb : Int) == 9218868437227405312) = false := by simp; omega
  rw [if_neg (by omega), if_neg i1, if_neg i2] at hres
  have ea2 := EA.out (by omega)
  have eb2 := EB.out (by omega)
  by_cases z : ma = 0 ∧ mb = 0
  · rw [if_pos z] at hres
    have hb2 := HAB.out z.1 z.2
    rw [hb2, hres] at hand
    clear hb2 hres
    obtain ⟨z1, z2⟩ := z
    have z1d : ((ma : Int) == 0) = true := by simp; omega
    have z2d : ((mb : Int) == 0) = true := by simp; omega
    go_enter Try.func43, Try.ntmps43
    go_wp2_with fail
    refine N1.out.mono ?_
    rintro e1 w1 ⟨rfl, rfl⟩
    go_wp2_with fail
    refine N2.out.mono ?_
    rintro e1 w1 ⟨rfl, rfl⟩
    go_wp2_with fail
    go_ret
    exact ⟨rfl, Kept.refl _ _⟩
  rw [if_neg z] at hres
  obtain ⟨k, hk⟩ : ∃ k, min e f = k := ⟨_, rfl⟩
  rw [hk] at hres
  obtain ⟨i, hi⟩ : ∃ i : Nat, e - k = (i : Int) := ⟨(e - k).toNat, by omega⟩
  obtain ⟨j, hj⟩ : ∃ j : Nat, f - k = (j : Int) := ⟨(f - k).toNat, by omega⟩
  have hi9 : i ≤ 2100 := by omega
  have hj9 : j ≤ 2100 := by omega
  rw [hi, hj, Int.toNat_natCast, Int.toNat_natCast] at hres
  have hk1 : -4000 ≤ k := by omega
  have hk2 : k ≤ 4000 := by omega
  obtain ⟨E, hE1, hE2, hE9⟩ : ∃ E, 53 + i ≤ E ∧ 53 + j ≤ E ∧ E + 1 ≤ 2240 := ⟨2200, by omega, by omega, by omega⟩
  have lx := pm_len XA.out hE1
  have ly := pm_len XB.out hE2
  have lm := len70 (v := m) (e := 53) (by decide) XA.out
  have ln := len70 (v := n) (e := 53) (by decide) XB.out
  obtain ⟨x, hx⟩ : ∃ x, m * 2 ^ i = x := ⟨_, rfl⟩
  obtain ⟨y, hy⟩ : ∃ y, n * 2 ^ j = y := ⟨_, rfl⟩
  rw [hx] at lx hres
  rw [hy] at ly hres
  have S1 := Lib.hid (fun ⦃A : Option Addr⦄ ⦃n' c : Nat⦄ ⦃W : World⦄ (h : SliceOf repU W W.heap.size A n' c (dig m)) (hn : n' ≤ 100000) => shift_any (k := i) h (by omega) hn)
  have S2 := Lib.hid (fun ⦃A : Option Addr⦄ ⦃n' c : Nat⦄ ⦃W : World⦄ (h : SliceOf repU W W.heap.size A n' c (dig n)) (hn : n' ≤ 100000) => shift_any (k := j) h (by omega) hn)
  rw [hx] at S1
  rw [hy] at S2
  clear hx hy
  have lxy := len70 hE9 (pm_sum lx ly)
  have lx2 := len70 hE9 (Nat.lt_of_le_of_lt (Nat.le_add_right x y) (pm_sum lx ly))
  have ly2 := len70 hE9 (Nat.lt_of_le_of_lt (Nat.le_add_left y x) (pm_sum lx ly))
  have lsx : (dig (x - y)).length ≤ 70 ∧ (dig (y - x)).length ≤ 70 := ⟨len70 (v := x - y) hE9 (Nat.lt_of_le_of_lt (Nat.sub_le _ _) (Nat.lt_of_le_of_lt (Nat.le_add_right x y) (pm_sum lx ly))), len70 (v := y - x) hE9 (Nat.lt_of_le_of_lt (Nat.sub_le _ _) (Nat.lt_of_le_of_lt (Nat.le_add_left y x) (pm_sum lx ly)))⟩
  clear hE1 hE2 hE9
  have LX := Lib.hid lx
  have LY := Lib.hid ly
  have LM := Lib.hid lm
  have LN := Lib.hid ln
  have LXY := Lib.hid lxy
  have LX2 := Lib.hid lx2
  have LY2 := Lib.hid ly2
  have LSX := Lib.hid lsx
  clear lx ly lm ln lxy lx2 ly2 lsx
  by_cases z1 : ma = 0
  · have z1d : ((ma : Int) == 0) = true := by simp; omega
    have z2d : ((mb : Int) == 0) = false := by simp; omega
    clear z i1 i2 z1
    by_cases hg : neg a = neg b
    · rw [if_pos hg] at hres
      have hg2 := HST.out.2 hg
      have hgd : ((ga : Int) == (gb : Int)) = true := by simp; omega
      clear hg hg2
      go_enter Try.func43, Try.ntmps43
      go_wp2_with fail
      refine N1.out.mono ?_
      rintro e1 w1 ⟨rfl, rfl⟩
      go_wp2_with fail
      refine N2.out.mono ?_
      rintro e1 w1 ⟨rfl, rfl⟩
      go_wp2_with fail
      refine (PA.out _).mono ?_
      rintro e1 w1 ⟨rfl, rfl⟩
      go_wp2_with fail
      refine (PB.out _).mono ?_
      rintro e1 w1 ⟨rfl, rfl⟩
      go_wp2_with fail
      refine (O1.out _ (Nat.lt_trans XA.out (by decide)) _).mono ?_
      rintro e1 w1 ⟨hn1, A1, k1, c1, rfl, hs1⟩
      have T1 := Lib.hid (S1.out hs1 (by rw [hs1.len]; have := LM.out; omega))
      have HS1 := Lib.hid hs1
      have HN1 := Lib.hid hn1
      clear hs1 hn1
      go_wp2_with fail
      refine T1.out.mono ?_
      rintro e1 w2 ⟨hn2, A2, k2, c2, rfl, hs2⟩
      have hn12 := HN1.out.trans hn2
      have HS2 := Lib.hid hs2
      have HN2 := Lib.hid hn2
      have HN12 := Lib.hid hn12
      clear hs2 hn2 hn12
      go_wp2_with fail
      refine (O1.out _ (Nat.lt_trans XB.out (by decide)) _).mono ?_
      rintro e1 w3 ⟨hn3, A3, k3, c3, rfl, hs3⟩
      have T3 := Lib.hid (S2.out hs3 (by rw [hs3.len]; have := LN.out; omega))
      have hs23 := num_kept HS2.out hn3
      have hn13 := HN12.out.trans hn3
      have HS3 := Lib.hid hs3
      have HN3 := Lib.hid hn3
      have HS23 := Lib.hid hs23
      have HN13 := Lib.hid hn13
      clear hs3 hn3 hs23 hn13
      go_wp2_with fail
      refine T3.out.mono ?_
      rintro e1 w4 ⟨hn4, A4, k4, c4, rfl, hs4⟩
      have hs24 := num_kept HS23.out hn4
      have hn14 := HN13.out.trans hn4
      have k2n : k2 ≤ 1000000 := by rw [hs24.len]; have := LX2.out; omega
      have k4n : k4 ≤ 1000000 := by rw [hs4.len]; have := LY2.out; omega
      have Q1 := Lib.hid (sum_any hs24 hs4 k2n k4n)
      have HS24 := Lib.hid hs24
      have HS4 := Lib.hid hs4
      have HN14 := Lib.hid hn14
      clear hs24 hs4 hn14
      go_wp2_with fail
      refine Q1.out.mono ?_
      rintro e1 w5 ⟨hn5, A5, k5, c5, rfl, hs5⟩
      have Q2 := Lib.hid (RA.out hs5 (by rw [hs5.len]; have := LXY.out; omega) hk1 hk2)
      rw [hres] at Q2
      have hn15 := HN14.out.trans hn5
      have HS5 := Lib.hid hs5
      have HN5 := Lib.hid hn5
      have HN15 := Lib.hid hn15
      clear hs5 hn5 hn15
      go_wp2_with fail
      refine Q2.out.mono ?_
      rintro e1 w6 ⟨rfl, hn6⟩
      have hn16 := HN15.out.trans hn6
      have HN6 := Lib.hid hn6
      have HN16 := Lib.hid hn16
      clear hn6 hn16
      go_wp2_with fail
      go_ret
      exact ⟨rfl, HN16.out⟩
    rw [if_neg hg] at hres
    have hg2 : ¬ ga = gb := fun h => hg (HST.out.1 h)
    have hgd : ((ga : Int) == (gb : Int)) = false := by simp; omega
    clear hg hg2
    obtain hc | hc | hc : x = y ∨ y < x ∨ x < y := by omega
    · rw [if_pos hc] at hres
      obtain rfl := hres
      go_enter Try.func43, Try.ntmps43
      go_wp2_with fail
      refine N1.out.mono ?_
      rintro e1 w1 ⟨rfl, rfl⟩
      go_wp2_with fail
      refine N2.out.mono ?_
      rintro e1 w1 ⟨rfl, rfl⟩
      go_wp2_with fail
      refine (PA.out _).mono ?_
      rintro e1 w1 ⟨rfl, rfl⟩
      go_wp2_with fail
      refine (PB.out _).mono ?_
      rintro e1 w1 ⟨rfl, rfl⟩
      go_wp2_with fail
      refine (O1.out _ (Nat.lt_trans XA.out (by decide)) _).mono ?_
      rintro e1 w1 ⟨hn1, A1, k1, c1, rfl, hs1⟩
      have T1 := Lib.hid (S1.out hs1 (by rw [hs1.len]; have := LM.out; omega))
      have HS1 := Lib.hid hs1
      have HN1 := Lib.hid hn1
      clear hs1 hn1
      go_wp2_with fail
      refine T1.out.mono ?_
      rintro e1 w2 ⟨hn2, A2, k2, c2, rfl, hs2⟩
      have hn12 := HN1.out.trans hn2
      have HS2 := Lib.hid hs2
      have HN2 := Lib.hid hn2
      have HN12 := Lib.hid hn12
      clear hs2 hn2 hn12
      go_wp2_with fail
      refine (O1.out _ (Nat.lt_trans XB.out (by decide)) _).mono ?_
      rintro e1 w3 ⟨hn3, A3, k3, c3, rfl, hs3⟩
      have T3 := Lib.hid (S2.out hs3 (by rw [hs3.len]; have := LN.out; omega))
      have hs23 := num_kept HS2.out hn3
      have hn13 := HN12.out.trans hn3
      have HS3 := Lib.hid hs3
      have HN3 := Lib.hid hn3
      have HS23 := Lib.hid hs23
      have HN13 := Lib.hid hn13
      clear hs3 hn3 hs23 hn13
      go_wp2_with fail
      refine T3.out.mono ?_
      rintro e1 w4 ⟨hn4, A4, k4, c4, rfl, hs4⟩
      have hs24 := num_kept HS23.out hn4
      have hn14 := HN13.out.trans hn4
      have k2n : k2 ≤ 1000000 := by rw [hs24.len]; have := LX2.out; omega
      have k4n : k4 ≤ 1000000 := by rw [hs4.len]; have := LY2.out; omega
      have Q1 := Lib.hid (compare_any hs24 hs4)
      rw [show cmpN x y = 0 by unfold cmpN; rw [if_neg (by omega), if_neg (by omega)]] at Q1
      have HS24 := Lib.hid hs24
      have HS4 := Lib.hid hs4
      have HN14 := Lib.hid hn14
      clear hs24 hs4 hn14
      go_wp2_with fail
      refine Q1.out.mono ?_
      rintro e1 w5 ⟨rfl, hn5⟩
      have hn15 := HN14.out.trans hn5
      have HN5 := Lib.hid hn5
      have HN15 := Lib.hid hn15
      clear hn5 hn15
      go_wp2_with fail
      go_ret
      exact ⟨rfl, HN15.out⟩
    · rw [if_neg (by omega), if_pos hc] at hres
      go_enter Try.func43, Try.ntmps43
      go_wp2_with fail
      refine N1.out.mono ?_
      rintro e1 w1 ⟨rfl, rfl⟩
      go_wp2_with fail
      refine N2.out.mono ?_
      rintro e1 w1 ⟨rfl, rfl⟩
      go_wp2_with fail
      refine (PA.out _).mono ?_
      rintro e1 w1 ⟨rfl, rfl⟩
      go_wp2_with fail
      refine (PB.out _).mono ?_
      rintro e1 w1 ⟨rfl, rfl⟩
      go_wp2_with fail
      refine (O1.out _ (Nat.lt_trans XA.out (by decide)) _).mono ?_
      rintro e1 w1 ⟨hn1, A1, k1, c1, rfl, hs1⟩
      have T1 := Lib.hid (S1.out hs1 (by rw [hs1.len]; have := LM.out; omega))
      have HS1 := Lib.hid hs1
      have HN1 := Lib.hid hn1
      clear hs1 hn1
      go_wp2_with fail
      refine T1.out.mono ?_
      rintro e1 w2 ⟨hn2, A2, k2, c2, rfl, hs2⟩
      have hn12 := HN1.out.trans hn2
      have HS2 := Lib.hid hs2
      have HN2 := Lib.hid hn2
      have HN12 := Lib.hid hn12
      clear hs2 hn2 hn12
      go_wp2_with fail
      refine (O1.out _ (Nat.lt_trans XB.out (by decide)) _).mono ?_
      rintro e1 w3 ⟨hn3, A3, k3, c3, rfl, hs3⟩
      have T3 := Lib.hid (S2.out hs3 (by rw [hs3.len]; have := LN.out; omega))
      have hs23 := num_kept HS2.out hn3
      have hn13 := HN12.out.trans hn3
      have HS3 := Lib.hid hs3
      have HN3 := Lib.hid hn3
      have HS23 := Lib.hid hs23
      have HN13 := Lib.hid hn13
      clear hs3 hn3 hs23 hn13
      go_wp2_with fail
      refine T3.out.mono ?_
      rintro e1 w4 ⟨hn4, A4, k4, c4, rfl, hs4⟩
      have hs24 := num_kept HS23.out hn4
      have hn14 := HN13.out.trans hn4
      have k2n : k2 ≤ 1000000 := by rw [hs24.len]; have := LX2.out; omega
      have k4n : k4 ≤ 1000000 := by rw [hs4.len]; have := LY2.out; omega
      have Q1 := Lib.hid (compare_any hs24 hs4)
      rw [show cmpN x y = 1 by unfold cmpN; rw [if_neg (by omega), if_pos (by omega)]] at Q1
      have HS24 := Lib.hid hs24
      have HS4 := Lib.hid hs4
      have HN14 := Lib.hid hn14
      clear hs24 hs4 hn14
      go_wp2_with fail
      refine Q1.out.mono ?_
      rintro e1 w5 ⟨rfl, hn5⟩
      have hn15 := HN14.out.trans hn5
      have U1 := Lib.hid (less_any (num_kept HS24.out hn5) (num_kept HS4.out hn5) (by omega) k2n)
      have HN5 := Lib.hid hn5
      have HN15 := Lib.hid hn15
      clear hn5 hn15
      go_wp2_with fail
      refine U1.out.mono ?_
      rintro e1 w6 ⟨hn6, A6, k6, c6, rfl, hs6⟩
      have Q2 := Lib.hid (RA.out hs6 (by rw [hs6.len]; have := LSX.out.1; omega) hk1 hk2)
      rw [hres] at Q2
      have hn16 := HN15.out.trans hn6
      have HS6 := Lib.hid hs6
      have HN6 := Lib.hid hn6
      have HN16 := Lib.hid hn16
      clear hs6 hn6 hn16
      go_wp2_with fail
      refine Q2.out.mono ?_
      rintro e1 w7 ⟨rfl, hn7⟩
      have hn17 := HN16.out.trans hn7
      have HN7 := Lib.hid hn7
      have HN17 := Lib.hid hn17
      clear hn7 hn17
      go_wp2_with fail
      go_ret
      exact ⟨rfl, HN17.out⟩
    · rw [if_neg (by omega), if_neg (by omega)] at hres
      go_enter Try.func43, Try.ntmps43
      go_wp2_with fail
      refine N1.out.mono ?_
      rintro e1 w1 ⟨rfl, rfl⟩
      go_wp2_with fail
      refine N2.out.mono ?_
      rintro e1 w1 ⟨rfl, rfl⟩
      go_wp2_with fail
      refine (PA.out _).mono ?_
      rintro e1 w1 ⟨rfl, rfl⟩
      go_wp2_with fail
      refine (PB.out _).mono ?_
      rintro e1 w1 ⟨rfl, rfl⟩
      go_wp2_with fail
      refine (O1.out _ (Nat.lt_trans XA.out (by decide)) _).mono ?_
      rintro e1 w1 ⟨hn1, A1, k1, c1, rfl, hs1⟩
      have T1 := Lib.hid (S1.out hs1 (by rw [hs1.len]; have := LM.out; omega))
      have HS1 := Lib.hid hs1
      have HN1 := Lib.hid hn1
      clear hs1 hn1
      go_wp2_with fail
      refine T1.out.mono ?_
      rintro e1 w2 ⟨hn2, A2, k2, c2, rfl, hs2⟩
      have hn12 := HN1.out.trans hn2
      have HS2 := Lib.hid hs2
      have HN2 := Lib.hid hn2
      have HN12 := Lib.hid hn12
      clear hs2 hn2 hn12
      go_wp2_with fail
      refine (O1.out _ (Nat.lt_trans XB.out (by decide)) _).mono ?_
      rintro e1 w3 ⟨hn3, A3, k3, c3, rfl, hs3⟩
      have T3 := Lib.hid (S2.out hs3 (by rw [hs3.len]; have := LN.out; omega))
      have hs23 := num_kept HS2.out hn3
      have hn13 := HN12.out.trans hn3
      have HS3 := Lib.hid hs3
      have HN3 := Lib.hid hn3
      have HS23 := Lib.hid hs23
      have HN13 := Lib.hid hn13
      clear hs3 hn3 hs23 hn13
      go_wp2_with fail
      refine T3.out.mono ?_
      rintro e1 w4 ⟨hn4, A4, k4, c4, rfl, hs4⟩
      have hs24 := num_kept HS23.out hn4
      have hn14 := HN13.out.trans hn4
      have k2n : k2 ≤ 1000000 := by rw [hs24.len]; have := LX2.out; omega
      have k4n : k4 ≤ 1000000 := by rw [hs4.len]; have := LY2.out; omega
      have Q1 := Lib.hid (compare_any hs24 hs4)
      rw [show cmpN x y = -1 by unfold cmpN; rw [if_pos (by omega)]] at Q1
      have HS24 := Lib.hid hs24
      have HS4 := Lib.hid hs4
      have HN14 := Lib.hid hn14
      clear hs24 hs4 hn14
      go_wp2_with fail
      refine Q1.out.mono ?_
      rintro e1 w5 ⟨rfl, hn5⟩
      have hn15 := HN14.out.trans hn5
      have U1 := Lib.hid (less_any (num_kept HS4.out hn5) (num_kept HS24.out hn5) (by omega) k4n)
      have HN5 := Lib.hid hn5
      have HN15 := Lib.hid hn15
      clear hn5 hn15
      go_wp2_with fail
      refine U1.out.mono ?_
      rintro e1 w6 ⟨hn6, A6, k6, c6, rfl, hs6⟩
      have Q2 := Lib.hid (RB.out hs6 (by rw [hs6.len]; have := LSX.out.2; omega) hk1 hk2)
      rw [hres] at Q2
      have hn16 := HN15.out.trans hn6
      have HS6 := Lib.hid hs6
      have HN6 := Lib.hid hn6
      have HN16 := Lib.hid hn16
      clear hs6 hn6 hn16
      go_wp2_with fail
      refine Q2.out.mono ?_
      rintro e1 w7 ⟨rfl, hn7⟩
      have hn17 := HN16.out.trans hn7
      have HN7 := Lib.hid hn7
      have HN17 := Lib.hid hn17
      clear hn7 hn17
      go_wp2_with fail
      go_ret
      exact ⟨rfl, HN17.out⟩
  have z1d : ((ma : Int) == 0) = false := by simp; omega
  clear z i1 i2 z1
  by_cases hg : neg a = neg b
  · rw [if_pos hg] at hres
    have hg2 := HST.out.2 hg
    have hgd : ((ga : Int) == (gb : Int)) = true := by simp; omega
    clear hg hg2
    go_enter Try.func43, Try.ntmps43
    go_wp2_with fail
    refine N1.out.mono ?_
    rintro e1 w1 ⟨rfl, rfl⟩
    go_wp2_with fail
    refine N2.out.mono ?_
    rintro e1 w1 ⟨rfl, rfl⟩
    go_wp2_with fail
    refine (PA.out _).mono ?_
    rintro e1 w1 ⟨rfl, rfl⟩
    go_wp2_with fail
    refine (PB.out _).mono ?_
    rintro e1 w1 ⟨rfl, rfl⟩
    go_wp2_with fail
    refine (O1.out _ (Nat.lt_trans XA.out (by decide)) _).mono ?_
    rintro e1 w1 ⟨hn1, A1, k1, c1, rfl, hs1⟩
    have T1 := Lib.hid (S1.out hs1 (by rw [hs1.len]; have := LM.out; omega))
    have HS1 := Lib.hid hs1
    have HN1 := Lib.hid hn1
    clear hs1 hn1
    go_wp2_with fail
    refine T1.out.mono ?_
    rintro e1 w2 ⟨hn2, A2, k2, c2, rfl, hs2⟩
    have hn12 := HN1.out.trans hn2
    have HS2 := Lib.hid hs2
    have HN2 := Lib.hid hn2
    have HN12 := Lib.hid hn12
    clear hs2 hn2 hn12
    go_wp2_with fail
    refine (O1.out _ (Nat.lt_trans XB.out (by decide)) _).mono ?_
    rintro e1 w3 ⟨hn3, A3, k3, c3, rfl, hs3⟩
    have T3 := Lib.hid (S2.out hs3 (by rw [hs3.len]; have := LN.out; omega))
    have hs23 := num_kept HS2.out hn3
    have hn13 := HN12.out.trans hn3
    have HS3 := Lib.hid hs3
    have HN3 := Lib.hid hn3
    have HS23 := Lib.hid hs23
    have HN13 := Lib.hid hn13
    clear hs3 hn3 hs23 hn13
    go_wp2_with fail
    refine T3.out.mono ?_
    rintro e1 w4 ⟨hn4, A4, k4, c4, rfl, hs4⟩
    have hs24 := num_kept HS23.out hn4
    have hn14 := HN13.out.trans hn4
    have k2n : k2 ≤ 1000000 := by rw [hs24.len]; have := LX2.out; omega
    have k4n : k4 ≤ 1000000 := by rw [hs4.len]; have := LY2.out; omega
    have Q1 := Lib.hid (sum_any hs24 hs4 k2n k4n)
    have HS24 := Lib.hid hs24
    have HS4 := Lib.hid hs4
    have HN14 := Lib.hid hn14
    clear hs24 hs4 hn14
    go_wp2_with fail
    refine Q1.out.mono ?_
    rintro e1 w5 ⟨hn5, A5, k5, c5, rfl, hs5⟩
    have Q2 := Lib.hid (RA.out hs5 (by rw [hs5.len]; have := LXY.out; omega) hk1 hk2)
    rw [hres] at Q2
    have hn15 := HN14.out.trans hn5
    have HS5 := Lib.hid hs5
    have HN5 := Lib.hid hn5
    have HN15 := Lib.hid hn15
    clear hs5 hn5 hn15
    go_wp2_with fail
    refine Q2.out.mono ?_
    rintro e1 w6 ⟨rfl, hn6⟩
    have hn16 := HN15.out.trans hn6
    have HN6 := Lib.hid hn6
    have HN16 := Lib.hid hn16
    clear hn6 hn16
    go_wp2_with fail
    go_ret
    exact ⟨rfl, HN16.out⟩
  rw [if_neg hg] at hres
  have hg2 : ¬ ga = gb := fun h => hg (HST.out.1 h)
  have hgd : ((ga : Int) == (gb : Int)) = false := by simp; omega
  clear hg hg2
  obtain hc | hc | hc : x = y ∨ y < x ∨ x < y := by omega
  · rw [if_pos hc] at hres
    obtain rfl := hres
    go_enter Try.func43, Try.ntmps43
    go_wp2_with fail
    refine N1.out.mono ?_
    rintro e1 w1 ⟨rfl, rfl⟩
    go_wp2_with fail
    refine N2.out.mono ?_
    rintro e1 w1 ⟨rfl, rfl⟩
    go_wp2_with fail
    refine (PA.out _).mono ?_
    rintro e1 w1 ⟨rfl, rfl⟩
    go_wp2_with fail
    refine (PB.out _).mono ?_
    rintro e1 w1 ⟨rfl, rfl⟩
    go_wp2_with fail
    refine (O1.out _ (Nat.lt_trans XA.out (by decide)) _).mono ?_
    rintro e1 w1 ⟨hn1, A1, k1, c1, rfl, hs1⟩
    have T1 := Lib.hid (S1.out hs1 (by rw [hs1.len]; have := LM.out; omega))
    have HS1 := Lib.hid hs1
    have HN1 := Lib.hid hn1
    clear hs1 hn1
    go_wp2_with fail
    refine T1.out.mono ?_
    rintro e1 w2 ⟨hn2, A2, k2, c2, rfl, hs2⟩
    have hn12 := HN1.out.trans hn2
    have HS2 := Lib.hid hs2
    have HN2 := Lib.hid hn2
    have HN12 := Lib.hid hn12
    clear hs2 hn2 hn12
    go_wp2_with fail
    refine (O1.out _ (Nat.lt_trans XB.out (by decide)) _).mono ?_
    rintro e1 w3 ⟨hn3, A3, k3, c3, rfl, hs3⟩
    have T3 := Lib.hid (S2.out hs3 (by rw [hs3.len]; have := LN.out; omega))
    have hs23 := num_kept HS2.out hn3
    have hn13 := HN12.out.trans hn3
    have HS3 := Lib.hid hs3
    have HN3 := Lib.hid hn3
    have HS23 := Lib.hid hs23
    have HN13 := Lib.hid hn13
    clear hs3 hn3 hs23 hn13
    go_wp2_with fail
    refine T3.out.mono ?_
    rintro e1 w4 ⟨hn4, A4, k4, c4, rfl, hs4⟩
    have hs24 := num_kept HS23.out hn4
    have hn14 := HN13.out.trans hn4
    have k2n : k2 ≤ 1000000 := by rw [hs24.len]; have := LX2.out; omega
    have k4n : k4 ≤ 1000000 := by rw [hs4.len]; have := LY2.out; omega
    have Q1 := Lib.hid (compare_any hs24 hs4)
    rw [show cmpN x y = 0 by unfold cmpN; rw [if_neg (by omega), if_neg (by omega)]] at Q1
    have HS24 := Lib.hid hs24
    have HS4 := Lib.hid hs4
    have HN14 := Lib.hid hn14
    clear hs24 hs4 hn14
    go_wp2_with fail
    refine Q1.out.mono ?_
    rintro e1 w5 ⟨rfl, hn5⟩
    have hn15 := HN14.out.trans hn5
    have HN5 := Lib.hid hn5
    have HN15 := Lib.hid hn15
    clear hn5 hn15
    go_wp2_with fail
    go_ret
    exact ⟨rfl, HN15.out⟩
  · rw [if_neg (by omega), if_pos hc] at hres
    go_enter Try.func43, Try.ntmps43
    go_wp2_with fail
    refine N1.out.mono ?_
    rintro e1 w1 ⟨rfl, rfl⟩
    go_wp2_with fail
    refine N2.out.mono ?_
    rintro e1 w1 ⟨rfl, rfl⟩
    go_wp2_with fail
    refine (PA.out _).mono ?_
    rintro e1 w1 ⟨rfl, rfl⟩
    go_wp2_with fail
    refine (PB.out _).mono ?_
    rintro e1 w1 ⟨rfl, rfl⟩
    go_wp2_with fail
    refine (O1.out _ (Nat.lt_trans XA.out (by decide)) _).mono ?_
    rintro e1 w1 ⟨hn1, A1, k1, c1, rfl, hs1⟩
    have T1 := Lib.hid (S1.out hs1 (by rw [hs1.len]; have := LM.out; omega))
    have HS1 := Lib.hid hs1
    have HN1 := Lib.hid hn1
    clear hs1 hn1
    go_wp2_with fail
    refine T1.out.mono ?_
    rintro e1 w2 ⟨hn2, A2, k2, c2, rfl, hs2⟩
    have hn12 := HN1.out.trans hn2
    have HS2 := Lib.hid hs2
    have HN2 := Lib.hid hn2
    have HN12 := Lib.hid hn12
    clear hs2 hn2 hn12
    go_wp2_with fail
    refine (O1.out _ (Nat.lt_trans XB.out (by decide)) _).mono ?_
    rintro e1 w3 ⟨hn3, A3, k3, c3, rfl, hs3⟩
    have T3 := Lib.hid (S2.out hs3 (by rw [hs3.len]; have := LN.out; omega))
    have hs23 := num_kept HS2.out hn3
    have hn13 := HN12.out.trans hn3
    have HS3 := Lib.hid hs3
    have HN3 := Lib.hid hn3
    have HS23 := Lib.hid hs23
    have HN13 := Lib.hid hn13
    clear hs3 hn3 hs23 hn13
    go_wp2_with fail
    refine T3.out.mono ?_
    rintro e1 w4 ⟨hn4, A4, k4, c4, rfl, hs4⟩
    have hs24 := num_kept HS23.out hn4
    have hn14 := HN13.out.trans hn4
    have k2n : k2 ≤ 1000000 := by rw [hs24.len]; have := LX2.out; omega
    have k4n : k4 ≤ 1000000 := by rw [hs4.len]; have := LY2.out; omega
    have Q1 := Lib.hid (compare_any hs24 hs4)
    rw [show cmpN x y = 1 by unfold cmpN; rw [if_neg (by omega), if_pos (by omega)]] at Q1
    have HS24 := Lib.hid hs24
    have HS4 := Lib.hid hs4
    have HN14 := Lib.hid hn14
    clear hs24 hs4 hn14
    go_wp2_with fail
    refine Q1.out.mono ?_
    rintro e1 w5 ⟨rfl, hn5⟩
    have hn15 := HN14.out.trans hn5
    have U1 := Lib.hid (less_any (num_kept HS24.out hn5) (num_kept HS4.out hn5) (by omega) k2n)
    have HN5 := Lib.hid hn5
    have HN15 := Lib.hid hn15
    clear hn5 hn15
    go_wp2_with fail
    refine U1.out.mono ?_
    rintro e1 w6 ⟨hn6, A6, k6, c6, rfl, hs6⟩
    have Q2 := Lib.hid (RA.out hs6 (by rw [hs6.len]; have := LSX.out.1; omega) hk1 hk2)
    rw [hres] at Q2
    have hn16 := HN15.out.trans hn6
    have HS6 := Lib.hid hs6
    have HN6 := Lib.hid hn6
    have HN16 := Lib.hid hn16
    clear hs6 hn6 hn16
    go_wp2_with fail
    refine Q2.out.mono ?_
    rintro e1 w7 ⟨rfl, hn7⟩
    have hn17 := HN16.out.trans hn7
    have HN7 := Lib.hid hn7
    have HN17 := Lib.hid hn17
    clear hn7 hn17
    go_wp2_with fail
    go_ret
    exact ⟨rfl, HN17.out⟩
  · rw [if_neg (by omega), if_neg (by omega)] at hres
    go_enter Try.func43, Try.ntmps43
    go_wp2_with fail
    refine N1.out.mono ?_
    rintro e1 w1 ⟨rfl, rfl⟩
    go_wp2_with fail
    refine N2.out.mono ?_
    rintro e1 w1 ⟨rfl, rfl⟩
    go_wp2_with fail
    refine (PA.out _).mono ?_
    rintro e1 w1 ⟨rfl, rfl⟩
    go_wp2_with fail
    refine (PB.out _).mono ?_
    rintro e1 w1 ⟨rfl, rfl⟩
    go_wp2_with fail
    refine (O1.out _ (Nat.lt_trans XA.out (by decide)) _).mono ?_
    rintro e1 w1 ⟨hn1, A1, k1, c1, rfl, hs1⟩
    have T1 := Lib.hid (S1.out hs1 (by rw [hs1.len]; have := LM.out; omega))
    have HS1 := Lib.hid hs1
    have HN1 := Lib.hid hn1
    clear hs1 hn1
    go_wp2_with fail
    refine T1.out.mono ?_
    rintro e1 w2 ⟨hn2, A2, k2, c2, rfl, hs2⟩
    have hn12 := HN1.out.trans hn2
    have HS2 := Lib.hid hs2
    have HN2 := Lib.hid hn2
    have HN12 := Lib.hid hn12
    clear hs2 hn2 hn12
    go_wp2_with fail
    refine (O1.out _ (Nat.lt_trans XB.out (by decide)) _).mono ?_
    rintro e1 w3 ⟨hn3, A3, k3, c3, rfl, hs3⟩
    have T3 := Lib.hid (S2.out hs3 (by rw [hs3.len]; have := LN.out; omega))
    have hs23 := num_kept HS2.out hn3
    have hn13 := HN12.out.trans hn3
    have HS3 := Lib.hid hs3
    have HN3 := Lib.hid hn3
    have HS23 := Lib.hid hs23
    have HN13 := Lib.hid hn13
    clear hs3 hn3 hs23 hn13
    go_wp2_with fail
    refine T3.out.mono ?_
    rintro e1 w4 ⟨hn4, A4, k4, c4, rfl, hs4⟩
    have hs24 := num_kept HS23.out hn4
    have hn14 := HN13.out.trans hn4
    have k2n : k2 ≤ 1000000 := by rw [hs24.len]; have := LX2.out; omega
    have k4n : k4 ≤ 1000000 := by rw [hs4.len]; have := LY2.out; omega
    have Q1 := Lib.hid (compare_any hs24 hs4)
    rw [show cmpN x y = -1 by unfold cmpN; rw [if_pos (by omega)]] at Q1
    have HS24 := Lib.hid hs24
    have HS4 := Lib.hid hs4
    have HN14 := Lib.hid hn14
    clear hs24 hs4 hn14
    go_wp2_with fail
    refine Q1.out.mono ?_
    rintro e1 w5 ⟨rfl, hn5⟩
    have hn15 := HN14.out.trans hn5
    have U1 := Lib.hid (less_any (num_kept HS4.out hn5) (num_kept HS24.out hn5) (by omega) k4n)
    have HN5 := Lib.hid hn5
    have HN15 := Lib.hid hn15
    clear hn5 hn15
    go_wp2_with fail
    refine U1.out.mono ?_
    rintro e1 w6 ⟨hn6, A6, k6, c6, rfl, hs6⟩
    have Q2 := Lib.hid (RB.out hs6 (by rw [hs6.len]; have := LSX.out.2; omega) hk1 hk2)
    rw [hres] at Q2
    have hn16 := HN15.out.trans hn6
    have HS6 := Lib.hid hs6
    have HN6 := Lib.hid hn6
    have HN16 := Lib.hid hn16
    clear hs6 hn6 hn16
    go_wp2_with fail
    refine Q2.out.mono ?_
    rintro e1 w7 ⟨rfl, hn7⟩
    have hn17 := HN16.out.trans hn7
    have HN7 := Lib.hid hn7
    have HN17 := Lib.hid hn17
    clear hn7 hn17
    go_wp2_with fail
    go_ret
    exact ⟨rfl, HN17.out⟩
end Go.Proofs.Ytilioiebecpknaa.Nat5
