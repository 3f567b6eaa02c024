/- The walk of the reference's rounded (layer 5). -/
import Derived.Test.YtilioiebecpknaaNC
namespace Go.Proofs.Ytilioiebecpknaa.Nat5
open Go.RowKit Go.Fb Go.NatP
set_option linter.unusedVariables false
open Go.FltP (rnd rndQ offOf qOf infR sgn)
/-- The three ends of rounded. -/
theorem rnd_low {v q : Nat} {e : Int} {more : Bool} (h0 : v ≠ 0) (h : qOf v e more = q) (hq : q < 4503599627370496) : rnd v e more = q := by
  unfold rnd; rw [if_neg h0, h, if_pos hq]
theorem rnd_top {v q : Nat} {e off : Int} {more : Bool} (h0 : v ≠ 0) (h : qOf v e more = q) (ho : offOf v e = off) (hq : ¬ q < 4503599627370496) (hx : 2047 ≤ e + off + 1075) : rnd v e more = 9218868437227405312 := by
  unfold rnd; rw [if_neg h0, h, if_neg hq, ho, if_pos hx]; rfl
theorem rnd_mid {v q x : Nat} {e off : Int} {more : Bool} (h0 : v ≠ 0) (h : qOf v e more = q) (ho : offOf v e = off) (hq : ¬ q < 4503599627370496) (hx : ¬ 2047 ≤ e + off + 1075) (hxe : e + off + 1075 = (x : Int)) :
    rnd v e more = min (x * 4503599627370496 + (q - 4503599627370496)) 9218868437227405312 := by
  unfold rnd; rw [if_neg h0, h, if_neg hq, ho, if_neg hx, hxe]; rfl
theorem cut_q {v off : Nat} {e : Int} {more : Bool} (h1 : 1 ≤ off) (ho : offOf v e = (off : Int)) : qOf v e more = rndQ v off more := by
  unfold qOf; rw [ho, if_neg (by omega)]; rfl
theorem rndQ_up {v off : Nat} {more : Bool} (h : 2 ^ (off - 1) < v % 2 ^ off ∨ (v % 2 ^ off = 2 ^ (off - 1) ∧ (more = true ∨ v / 2 ^ off % 2 = 1))) : rndQ v off more = v / 2 ^ off + 1 := by
  unfold rndQ; rw [if_pos h]
theorem rndQ_down {v off : Nat} {more : Bool} (h : ¬ (2 ^ (off - 1) < v % 2 ^ off ∨ (v % 2 ^ off = 2 ^ (off - 1) ∧ (more = true ∨ v / 2 ^ off % 2 = 1)))) : rndQ v off more = v / 2 ^ off := by
  unfold rndQ; rw [if_neg h]
theorem min_wr (a b : Nat) : min (a : Int) (b : Int) = ((min a b : Nat) : Int) := by omega
theorem mid_facts {q x : Nat} (hq : ¬ q < 4503599627370496) (hq3 : q ≤ 9007199254740992) (hx : x < 2047) : ∃ y tt zz r : Nat,
    (q : Int) - 4503599627370496 = (y : Int) ∧ IntKind.u64.wrap ((x : Int) * 4503599627370496) = (tt : Int) ∧ (tt : Int) + (y : Int) = (zz : Int) ∧ min (zz : Int) 9218868437227405312 = (r : Int) ∧ r < 9223372036854775808 ∧
    y < 9223372036854775808 ∧ tt < 9223372036854775808 ∧ zz < 18446744073709551616 ∧ min (x * 4503599627370496 + (q - 4503599627370496)) 9218868437227405312 = r := by
  refine ⟨q - 4503599627370496, x * 4503599627370496, x * 4503599627370496 + (q - 4503599627370496), min (x * 4503599627370496 + (q - 4503599627370496)) 9218868437227405312, by omega, ?_, by omega, ?_, by omega, by omega, by omega, by omega, rfl⟩
  · rw [show (x : Int) * 4503599627370496 = ((x * 4503599627370496 : Nat) : Int) from by omega]
    exact wrapN (by omega)
  · omega
set_option maxHeartbeats 4000000 in
set_option maxRecDepth 100000 in
theorem rounded_any {A : Option Addr} {n c v : Nat} {s more : Bool} {e : Int} {w : World} (h : SliceOf repU w w.heap.size A n c (dig v)) (hn : n ≤ 200) (he1 : -4000 ≤ e) (he2 : e ≤ 4000) :
    Calls Try.prog 63 #[.int .u64 (sgn s), .slice A n c, .int .i64 e, .bool more] w fun e' w' => e' = .returned (.int .u64 ((sgn s + rnd v e more : Nat) : Int)) ∧ New w w' := by
  have hln := h.len
  have hbd := h.bound
  by_cases h0 : v = 0
  · subst h0
    have hn0 : n = 0 := by rw [hln, dig_zero]; rfl
    subst hn0
    have hr : sgn s + rnd 0 e more = sgn s := by unfold rnd; rw [if_pos rfl]; rfl
    rw [hr]
    generalize sgn s = g at *
    have H := Lib.hid h
    have HLN := Lib.hid hln
    clear h hln
    go_enter Try.func63, Try.ntmps63
    go_wp2_with fail
    go_ret
    exact ⟨rfl, Kept.refl _ _⟩
  · obtain ⟨off, ho⟩ : ∃ off, offOf v e = off := ⟨_, rfl⟩
    have ho2 := off_bl h0 e
    rw [ho] at ho2
    have hb9 : bl v ≤ 6400 := by
      have h1 := dig_bound v
      rw [← hln, B_pow] at h1
      unfold bl
      rw [if_neg h0]
      have := (Nat.log2_lt h0).2 h1
      omega
    have hmax : max ((bl v : Int) - 53) (-1074 - e) = off := ho2.symm
    have b1 := bits_nat h (by omega)
    generalize bl v = bb at *
    have hn0 : ((n : Int) == 0) = false := by simp; rintro rfl; exact h0 (dig_nil.1 (List.eq_nil_of_length_eq_zero hln.symm))
    have hl1 : -1074 - e ≤ off := by omega
    have hl2 : off ≤ 7000 := by omega
    have hs9 : sgn s ≤ 9223372036854775808 := by unfold sgn; split <;> omega
    have HSG := Lib.hid (fun r (hr : r < 9223372036854775808) => sgn_or s (r := r) hr)
    generalize sgn s = g at *
    obtain ⟨r, hr⟩ : ∃ r, rnd v e more = r := ⟨_, rfl⟩
    rw [hr]
    have HR := Lib.hid hr
    obtain ⟨tr, htr⟩ : ∃ tr, g + r = tr := ⟨_, rfl⟩
    rw [htr]
    have HTR := Lib.hid htr
    clear htr
    have H0 := Lib.hid h0
    clear h0 hr
    by_cases hle : off ≤ 0
    · have H := Lib.hid h
      have HLN := Lib.hid hln
      have B1 := Lib.hid b1
      have HO2 := Lib.hid ho2
      have HO := Lib.hid ho
      clear h hln b1 ho2 ho
      go_enter Try.func63, Try.ntmps63
      go_wp2_with fail
      refine B1.out.mono ?_
      rintro e1 w1 ⟨rfl, rfl⟩
      obtain ⟨z, hz⟩ : ∃ z : Nat, -off = (z : Int) := ⟨(-off).toNat, by omega⟩
      have hz9 : z ≤ 10000 := by omega
      have S1 := Lib.hid (shift_any H.out (show z ≤ 100000 by omega) (by omega))
      have hub := up_bound H0.out (off := z) (by rw [HO.out]; omega)
      have hqe : qOf v e more = v * 2 ^ z := by
        unfold qOf
        rw [HO.out, if_pos hle, hz]; rfl
      obtain ⟨q, hq0⟩ : ∃ q, v * 2 ^ z = q := ⟨_, rfl⟩
      rw [hq0] at S1 hub hqe
      clear hq0
      have hq3 : q ≤ 9007199254740992 := by omega
      have HUB := Lib.hid hub
      have HQE := Lib.hid hqe
      clear hub hqe
      go_wp2_with fail
      refine S1.out.mono ?_
      rintro e2 w2 ⟨hn2, A2, k2, c2, rfl, hs2⟩
      have M1 := Lib.hid (small_any hs2 (by omega))
      have hbd2 := hs2.bound
      have HS2 := Lib.hid hs2
      have HNEW := Lib.hid hn2
      clear hs2 hn2
      clear hz
      go_wp2_with fail
      refine M1.out.mono ?_
      rintro e3 w3 ⟨rfl, rfl⟩
      by_cases hq : q < 4503599627370496
      · obtain rfl : r = q := HR.out.symm.trans (rnd_low H0.out HQE.out hq)
        have hor := HSG.out r (by omega)
        rw [HTR.out] at hor
        have hqd1 : decide ((r : Int) < 4503599627370496) = true := by rw [decide_eq_true_eq]; omega
        have hqd2 : decide (r < 4503599627370496) = true := by rw [decide_eq_true_eq]; omega
        go_wp2_with fail
        go_ret
        exact ⟨by first | rfl | trivial | simp [Array.getD], HNEW.out⟩
      · have hqd1 : decide ((q : Int) < 4503599627370496) = false := by rw [decide_eq_false_iff_not]; omega
        have hqd2 : decide (q < 4503599627370496) = false := by rw [decide_eq_false_iff_not]; omega
        by_cases hx : 2047 ≤ e + off + 1075
        · obtain rfl : r = 9218868437227405312 := HR.out.symm.trans (rnd_top H0.out HQE.out HO.out hq hx)
          have hor : bits BinOp.or IntKind.u64 (g : Int) 9218868437227405312 = (tr : Int) := by
            have := HSG.out 9218868437227405312 (by omega)
            rw [HTR.out] at this
            exact this
          go_wp2_with fail
          go_ret
          exact ⟨by first | rfl | trivial | simp [Array.getD], HNEW.out⟩
        · obtain ⟨x, hxe⟩ : ∃ x : Nat, e + off + 1075 = (x : Int) := ⟨(e + off + 1075).toNat, by omega⟩
          have hrm := HR.out.symm.trans (rnd_mid H0.out HQE.out HO.out hq hx hxe)
          have hx9 : x < 2047 := by omega
          have hx0 : 1 ≤ x := by omega
          obtain ⟨y, tt, zz, rr, hye, hx52, hsw, hmn, hr9, hy9, ht9, hz9, hre⟩ := mid_facts (x := x) hq hq3 (by omega)
          obtain rfl : r = rr := hrm.trans hre
          clear hre hrm
          have hor := HSG.out r (by omega)
          rw [HTR.out] at hor
          have hxw : IntKind.u64.wrap (x : Int) = (x : Int) := wrapN (by omega)
          have hyw : IntKind.u64.wrap (y : Int) = (y : Int) := wrapN (by omega)
          have hzw : IntKind.u64.wrap (zz : Int) = (zz : Int) := wrapN hz9
          have hxd1 : decide (2047 ≤ (x : Int)) = false := by rw [decide_eq_false_iff_not]; omega
          have hxd2 : decide (2047 ≤ x) = false := by rw [decide_eq_false_iff_not]; omega
          go_wp2_with fail
          go_ret
          exact ⟨by first | rfl | trivial | simp [Array.getD], HNEW.out⟩
    · obtain ⟨d, rfl⟩ : ∃ d : Nat, off = (d : Int) := ⟨off.toNat, by omega⟩
      have hd1 : 1 ≤ d := by omega
      have hd7 : d ≤ 7000 := by omega
      obtain ⟨f, hf⟩ : ∃ f, d - 1 = f := ⟨_, rfl⟩
      have L1 := Lib.hid (low_any h (show d ≤ 100000 by omega) (by omega))
      have hcb := cut_bound H0.out ho
      have hqe := cut_q (more := more) hd1 ho
      have hup := rndQ_up (v := v) (off := d) (more := more)
      have hdn := rndQ_down (v := v) (off := d) (more := more)
      have hfe : (d : Int) - 1 = (f : Int) := by omega
      have hf7 : f ≤ 7000 := by omega
      rw [hf] at hup hdn
      clear hf
      have O1 := Lib.hid (fun W => of_any (x := 1) (by decide) W)
      have d1 : (dig 1).length ≤ 100000 := Nat.le_trans (dig_len_lt (v := 1) (k := 1) (by decide)) (by decide)
      have D1 := Lib.hid d1
      clear d1
      obtain ⟨q0, hq0⟩ : ∃ q0, v / 2 ^ d = q0 := ⟨_, rfl⟩
      obtain ⟨R, hR⟩ : ∃ R, v % 2 ^ d = R := ⟨_, rfl⟩
      obtain ⟨P, hP⟩ : ∃ P, 2 ^ f = P := ⟨_, rfl⟩
      rw [hq0, hR, hP] at hup hdn
      rw [hq0] at hcb L1
      rw [hR] at L1
      have hq02 : q0 < 9007199254740992 := Nat.lt_of_lt_of_le hcb (by decide)
      have hdec0 : decide ((d : Int) ≤ 0) = false := by rw [decide_eq_false_iff_not]; omega
      clear hcb hq0 hR
      have H := Lib.hid h
      have HLN := Lib.hid hln
      have B1 := Lib.hid b1
      have HO2 := Lib.hid ho2
      have HO := Lib.hid ho
      have HQE0 := Lib.hid hqe
      have HUP := Lib.hid hup
      have HDN := Lib.hid hdn
      have HP := Lib.hid hP
      clear h hln b1 ho2 ho hqe hup hdn hP
      go_enter Try.func63, Try.ntmps63
      go_wp2_with fail
      refine B1.out.mono ?_
      rintro e1 w1 ⟨rfl, rfl⟩
      go_wp2_with fail
      refine L1.out.mono ?_
      rintro e2 w2 ⟨hn2, A2, k2, c2, A3, k3, c3, rfl, hs2, hs3⟩
      have M1 := Lib.hid (small_any hs3 (by omega))
      have HS2 := Lib.hid hs2
      have HS3 := Lib.hid hs3
      have HN2 := Lib.hid hn2
      clear hs2 hs3 hn2
      go_wp2_with fail
      refine M1.out.mono ?_
      rintro e3 w3 ⟨rfl, rfl⟩
      go_wp2_with fail
      refine (O1.out _).mono ?_
      rintro e4 w4 ⟨hn4, A4, k4, c4, rfl, hs4⟩
      have S1 := Lib.hid (shift_any (k := f) hs4 (by omega) (by rw [hs4.len]; exact D1.out))
      have hs2' := num_kept HS2.out hn4
      have hn24 := HN2.out.trans hn4
      have HS4 := Lib.hid hs4
      have HS2' := Lib.hid hs2'
      have HN4 := Lib.hid hn4
      have HN24 := Lib.hid hn24
      clear hs4 hs2' hn4 hn24
      go_wp2_with fail
      refine S1.out.mono ?_
      rintro e5 w5 ⟨hn5, A5, k5, c5, rfl, hs5⟩
      rw [Nat.one_mul, HP.out] at hs5
      have C1 := Lib.hid (compare_any (num_kept HS2'.out hn5) hs5)
      have hn25 := HN24.out.trans hn5
      have HS5 := Lib.hid hs5
      have HN5 := Lib.hid hn5
      have HN25 := Lib.hid hn25
      clear hs5 hn5 hn25
      go_wp2_with fail
      refine C1.out.mono ?_
      rintro e6 w6 ⟨rfl, hn6⟩
      have hnew := HN25.out.trans hn6
      have HNEW := Lib.hid hnew
      have HN6 := Lib.hid hn6
      clear hnew hn6
      obtain hc | hc | hc : R < P ∨ R = P ∨ P < R := by omega
      · have hcm : cmpN R P = -1 := by unfold cmpN; rw [if_pos hc]
        rw [hcm]
        clear hcm
        have hqq := HQE0.out.trans (HDN.out (by first | omega | simp_all | (simp_all; omega)))
        obtain ⟨q, hq⟩ : ∃ q, q0 = q := ⟨_, rfl⟩
        rw [hq] at hqq
        have HQE := Lib.hid hqq
        clear hqq
        have hq3 : q ≤ 9007199254740992 := by omega
        subst hq
        by_cases hq : q0 < 4503599627370496
        · obtain rfl : r = q0 := HR.out.symm.trans (rnd_low H0.out HQE.out hq)
          have hor := HSG.out r (by omega)
          rw [HTR.out] at hor
          have hqd1 : decide ((r : Int) < 4503599627370496) = true := by rw [decide_eq_true_eq]; omega
          have hqd2 : decide (r < 4503599627370496) = true := by rw [decide_eq_true_eq]; omega
          go_wp2_with fail
          go_ret
          exact ⟨by first | rfl | trivial | simp [Array.getD], HNEW.out⟩
        · have hqd1 : decide ((q0 : Int) < 4503599627370496) = false := by rw [decide_eq_false_iff_not]; omega
          have hqd2 : decide (q0 < 4503599627370496) = false := by rw [decide_eq_false_iff_not]; omega
          by_cases hx : 2047 ≤ e + (d : Int) + 1075
          · obtain rfl : r = 9218868437227405312 := HR.out.symm.trans (rnd_top H0.out HQE.out HO.out hq hx)
            have hor : bits BinOp.or IntKind.u64 (g : Int) 9218868437227405312 = (tr : Int) := by
              have := HSG.out 9218868437227405312 (by omega)
              rw [HTR.out] at this
              exact this
            go_wp2_with fail
            go_ret
            exact ⟨by first | rfl | trivial | simp [Array.getD], HNEW.out⟩
          · obtain ⟨x, hxe⟩ : ∃ x : Nat, e + (d : Int) + 1075 = (x : Int) := ⟨(e + (d : Int) + 1075).toNat, by omega⟩
            have hrm := HR.out.symm.trans (rnd_mid H0.out HQE.out HO.out hq hx hxe)
            have hx9 : x < 2047 := by omega
            have hx0 : 1 ≤ x := by omega
            obtain ⟨y, tt, zz, rr, hye, hx52, hsw, hmn, hr9, hy9, ht9, hz9, hre⟩ := mid_facts (x := x) hq hq3 (by omega)
            obtain rfl : r = rr := hrm.trans hre
            clear hre hrm
            have hor := HSG.out r (by omega)
            rw [HTR.out] at hor
            have hxw : IntKind.u64.wrap (x : Int) = (x : Int) := wrapN (by omega)
            have hyw : IntKind.u64.wrap (y : Int) = (y : Int) := wrapN (by omega)
            have hzw : IntKind.u64.wrap (zz : Int) = (zz : Int) := wrapN hz9
            have hxd1 : decide (2047 ≤ (x : Int)) = false := by rw [decide_eq_false_iff_not]; omega
            have hxd2 : decide (2047 ≤ x) = false := by rw [decide_eq_false_iff_not]; omega
            go_wp2_with fail
            go_ret
            exact ⟨by first | rfl | trivial | simp [Array.getD], HNEW.out⟩
      · have hcm : cmpN R P = 0 := by unfold cmpN; rw [if_neg (by omega), if_neg (by omega)]
        rw [hcm]
        clear hcm
        cases more
        · by_cases hev : q0 % 2 = 1
          · have hqq := HQE0.out.trans (HUP.out (by first | omega | simp_all | (simp_all; omega)))
            obtain ⟨q, hq⟩ : ∃ q, q0 + 1 = q := ⟨_, rfl⟩
            rw [hq] at hqq
            have HQE := Lib.hid hqq
            clear hqq
            have hq3 : q ≤ 9007199254740992 := by omega
            have hqi : (q0 : Int) + 1 = (q : Int) := by omega
            clear hq
            have hrem : (q0 : Int).tmod 2 = 1 := by rw [Int.tmod_eq_emod_of_nonneg (by omega)]; omega
            by_cases hq : q < 4503599627370496
            · obtain rfl : r = q := HR.out.symm.trans (rnd_low H0.out HQE.out hq)
              have hor := HSG.out r (by omega)
              rw [HTR.out] at hor
              have hqd1 : decide ((r : Int) < 4503599627370496) = true := by rw [decide_eq_true_eq]; omega
              have hqd2 : decide (r < 4503599627370496) = true := by rw [decide_eq_true_eq]; omega
              go_wp2_with fail
              go_ret
              exact ⟨by first | rfl | trivial | simp [Array.getD], HNEW.out⟩
            · have hqd1 : decide ((q : Int) < 4503599627370496) = false := by rw [decide_eq_false_iff_not]; omega
              have hqd2 : decide (q < 4503599627370496) = false := by rw [decide_eq_false_iff_not]; omega
              by_cases hx : 2047 ≤ e + (d : Int) + 1075
              · obtain rfl : r = 9218868437227405312 := HR.out.symm.trans (rnd_top H0.out HQE.out HO.out hq hx)
                have hor : bits BinOp.or IntKind.u64 (g : Int) 9218868437227405312 = (tr : Int) := by
                  have := HSG.out 9218868437227405312 (by omega)
                  rw [HTR.out] at this
                  exact this
                go_wp2_with fail
                go_ret
                exact ⟨by first | rfl | trivial | simp [Array.getD], HNEW.out⟩
              · obtain ⟨x, hxe⟩ : ∃ x : Nat, e + (d : Int) + 1075 = (x : Int) := ⟨(e + (d : Int) + 1075).toNat, by omega⟩
                have hrm := HR.out.symm.trans (rnd_mid H0.out HQE.out HO.out hq hx hxe)
                have hx9 : x < 2047 := by omega
                have hx0 : 1 ≤ x := by omega
                obtain ⟨y, tt, zz, rr, hye, hx52, hsw, hmn, hr9, hy9, ht9, hz9, hre⟩ := mid_facts (x := x) hq hq3 (by omega)
                obtain rfl : r = rr := hrm.trans hre
                clear hre hrm
                have hor := HSG.out r (by omega)
                rw [HTR.out] at hor
                have hxw : IntKind.u64.wrap (x : Int) = (x : Int) := wrapN (by omega)
                have hyw : IntKind.u64.wrap (y : Int) = (y : Int) := wrapN (by omega)
                have hzw : IntKind.u64.wrap (zz : Int) = (zz : Int) := wrapN hz9
                have hxd1 : decide (2047 ≤ (x : Int)) = false := by rw [decide_eq_false_iff_not]; omega
                have hxd2 : decide (2047 ≤ x) = false := by rw [decide_eq_false_iff_not]; omega
                go_wp2_with fail
                go_ret
                exact ⟨by first | rfl | trivial | simp [Array.getD], HNEW.out⟩
          · have hqq := HQE0.out.trans (HDN.out (by first | omega | simp_all | (simp_all; omega)))
            obtain ⟨q, hq⟩ : ∃ q, q0 = q := ⟨_, rfl⟩
            rw [hq] at hqq
            have HQE := Lib.hid hqq
            clear hqq
            have hq3 : q ≤ 9007199254740992 := by omega
            subst hq
            have hrem : (q0 : Int).tmod 2 = 0 := by rw [Int.tmod_eq_emod_of_nonneg (by omega)]; omega
            by_cases hq : q0 < 4503599627370496
            · obtain rfl : r = q0 := HR.out.symm.trans (rnd_low H0.out HQE.out hq)
              have hor := HSG.out r (by omega)
              rw [HTR.out] at hor
              have hqd1 : decide ((r : Int) < 4503599627370496) = true := by rw [decide_eq_true_eq]; omega
              have hqd2 : decide (r < 4503599627370496) = true := by rw [decide_eq_true_eq]; omega
              go_wp2_with fail
              go_ret
              exact ⟨by first | rfl | trivial | simp [Array.getD], HNEW.out⟩
            · have hqd1 : decide ((q0 : Int) < 4503599627370496) = false := by rw [decide_eq_false_iff_not]; omega
              have hqd2 : decide (q0 < 4503599627370496) = false := by rw [decide_eq_false_iff_not]; omega
              by_cases hx : 2047 ≤ e + (d : Int) + 1075
              · obtain rfl : r = 9218868437227405312 := HR.out.symm.trans (rnd_top H0.out HQE.out HO.out hq hx)
                have hor : bits BinOp.or IntKind.u64 (g : Int) 9218868437227405312 = (tr : Int) := by
                  have := HSG.out 9218868437227405312 (by omega)
                  rw [HTR.out] at this
                  exact this
                go_wp2_with fail
                go_ret
                exact ⟨by first | rfl | trivial | simp [Array.getD], HNEW.out⟩
              · obtain ⟨x, hxe⟩ : ∃ x : Nat, e + (d : Int) + 1075 = (x : Int) := ⟨(e + (d : Int) + 1075).toNat, by omega⟩
                have hrm := HR.out.symm.trans (rnd_mid H0.out HQE.out HO.out hq hx hxe)
                have hx9 : x < 2047 := by omega
                have hx0 : 1 ≤ x := by omega
                obtain ⟨y, tt, zz, rr, hye, hx52, hsw, hmn, hr9, hy9, ht9, hz9, hre⟩ := mid_facts (x := x) hq hq3 (by omega)
                obtain rfl : r = rr := hrm.trans hre
                clear hre hrm
                have hor := HSG.out r (by omega)
                rw [HTR.out] at hor
                have hxw : IntKind.u64.wrap (x : Int) = (x : Int) := wrapN (by omega)
                have hyw : IntKind.u64.wrap (y : Int) = (y : Int) := wrapN (by omega)
                have hzw : IntKind.u64.wrap (zz : Int) = (zz : Int) := wrapN hz9
                have hxd1 : decide (2047 ≤ (x : Int)) = false := by rw [decide_eq_false_iff_not]; omega
                have hxd2 : decide (2047 ≤ x) = false := by rw [decide_eq_false_iff_not]; omega
                go_wp2_with fail
                go_ret
                exact ⟨by first | rfl | trivial | simp [Array.getD], HNEW.out⟩
        · have hqq := HQE0.out.trans (HUP.out (by first | omega | simp_all | (simp_all; omega)))
          obtain ⟨q, hq⟩ : ∃ q, q0 + 1 = q := ⟨_, rfl⟩
          rw [hq] at hqq
          have HQE := Lib.hid hqq
          clear hqq
          have hq3 : q ≤ 9007199254740992 := by omega
          have hqi : (q0 : Int) + 1 = (q : Int) := by omega
          clear hq
          by_cases hq : q < 4503599627370496
          · obtain rfl : r = q := HR.out.symm.trans (rnd_low H0.out HQE.out hq)
            have hor := HSG.out r (by omega)
            rw [HTR.out] at hor
            have hqd1 : decide ((r : Int) < 4503599627370496) = true := by rw [decide_eq_true_eq]; omega
            have hqd2 : decide (r < 4503599627370496) = true := by rw [decide_eq_true_eq]; omega
            go_wp2_with fail
            go_ret
            exact ⟨by first | rfl | trivial | simp [Array.getD], HNEW.out⟩
          · have hqd1 : decide ((q : Int) < 4503599627370496) = false := by rw [decide_eq_false_iff_not]; omega
            have hqd2 : decide (q < 4503599627370496) = false := by rw [decide_eq_false_iff_not]; omega
            by_cases hx : 2047 ≤ e + (d : Int) + 1075
            · obtain rfl : r = 9218868437227405312 := HR.out.symm.trans (rnd_top H0.out HQE.out HO.out hq hx)
              have hor : bits BinOp.or IntKind.u64 (g : Int) 9218868437227405312 = (tr : Int) := by
                have := HSG.out 9218868437227405312 (by omega)
                rw [HTR.out] at this
                exact this
              go_wp2_with fail
              go_ret
              exact ⟨by first | rfl | trivial | simp [Array.getD], HNEW.out⟩
            · obtain ⟨x, hxe⟩ : ∃ x : Nat, e + (d : Int) + 1075 = (x : Int) := ⟨(e + (d : Int) + 1075).toNat, by omega⟩
              have hrm := HR.out.symm.trans (rnd_mid H0.out HQE.out HO.out hq hx hxe)
              have hx9 : x < 2047 := by omega
              have hx0 : 1 ≤ x := by omega
              obtain ⟨y, tt, zz, rr, hye, hx52, hsw, hmn, hr9, hy9, ht9, hz9, hre⟩ := mid_facts (x := x) hq hq3 (by omega)
              obtain rfl : r = rr := hrm.trans hre
              clear hre hrm
              have hor := HSG.out r (by omega)
              rw [HTR.out] at hor
              have hxw : IntKind.u64.wrap (x : Int) = (x : Int) := wrapN (by omega)
              have hyw : IntKind.u64.wrap (y : Int) = (y : Int) := wrapN (by omega)
              have hzw : IntKind.u64.wrap (zz : Int) = (zz : Int) := wrapN hz9
              have hxd1 : decide (2047 ≤ (x : Int)) = false := by rw [decide_eq_false_iff_not]; omega
              have hxd2 : decide (2047 ≤ x) = false := by rw [decide_eq_false_iff_not]; omega
              go_wp2_with fail
              go_ret
              exact ⟨by first | rfl | trivial | simp [Array.getD], HNEW.out⟩
      · have hcm : cmpN R P = 1 := by unfold cmpN; rw [if_neg (by omega), if_pos hc]
        rw [hcm]
        clear hcm
        have hqq := HQE0.out.trans (HUP.out (by first | omega | simp_all | (simp_all; omega)))
        obtain ⟨q, hq⟩ : ∃ q, q0 + 1 = q := ⟨_, rfl⟩
        rw [hq] at hqq
        have HQE := Lib.hid hqq
        clear hqq
        have hq3 : q ≤ 9007199254740992 := by omega
        have hqi : (q0 : Int) + 1 = (q : Int) := by omega
        clear hq
        by_cases hq : q < 4503599627370496
        · obtain rfl : r = q := HR.out.symm.trans (rnd_low H0.out HQE.out hq)
          have hor := HSG.out r (by omega)
          rw [HTR.out] at hor
          have hqd1 : decide ((r : Int) < 4503599627370496) = true := by rw [decide_eq_true_eq]; omega
          have hqd2 : decide (r < 4503599627370496) = true := by rw [decide_eq_true_eq]; omega
          go_wp2_with fail
          go_ret
          exact ⟨by first | rfl | trivial | simp [Array.getD], HNEW.out⟩
        · have hqd1 : decide ((q : Int) < 4503599627370496) = false := by rw [decide_eq_false_iff_not]; omega
          have hqd2 : decide (q < 4503599627370496) = false := by rw [decide_eq_false_iff_not]; omega
          by_cases hx : 2047 ≤ e + (d : Int) + 1075
          · obtain rfl : r = 9218868437227405312 := HR.out.symm.trans (rnd_top H0.out HQE.out HO.out hq hx)
            have hor : bits BinOp.or IntKind.u64 (g : Int) 9218868437227405312 = (tr : Int) := by
              have := HSG.out 9218868437227405312 (by omega)
              rw [HTR.out] at this
              exact this
            go_wp2_with fail
            go_ret
            exact ⟨by first | rfl | trivial | simp [Array.getD], HNEW.out⟩
          · obtain ⟨x, hxe⟩ : ∃ x : Nat, e + (d : Int) + 1075 = (x : Int) := ⟨(e + (d : Int) + 1075).toNat, by omega⟩
            have hrm := HR.out.symm.trans (rnd_mid H0.out HQE.out HO.out hq hx hxe)
            have hx9 : x < 2047 := by omega
            have hx0 : 1 ≤ x := by omega
            obtain ⟨y, tt, zz, rr, hye, hx52, hsw, hmn, hr9, hy9, ht9, hz9, hre⟩ := mid_facts (x := x) hq hq3 (by omega)
            obtain rfl : r = rr := hrm.trans hre
            clear hre hrm
            have hor := HSG.out r (by omega)
            rw [HTR.out] at hor
            have hxw : IntKind.u64.wrap (x : Int) = (x : Int) := wrapN (by omega)
            have hyw : IntKind.u64.wrap (y : Int) = (y : Int) := wrapN (by omega)
            have hzw : IntKind.u64.wrap (zz : Int) = (zz : Int) := wrapN hz9
            have hxd1 : decide (2047 ≤ (x : Int)) = false := by rw [decide_eq_false_iff_not]; omega
            have hxd2 : decide (2047 ≤ x) = false := by rw [decide_eq_false_iff_not]; omega
            go_wp2_with fail
            go_ret
            exact ⟨by first | rfl | trivial | simp [Array.getD], HNEW.out⟩
end Go.Proofs.Ytilioiebecpknaa.Nat5
