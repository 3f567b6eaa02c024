/- Configs, and who sees what (layer 18). -/
import Derived.Test.YtgdmajockejpgaaViewP
namespace Go.Proofs.Ytgdmajockejpgaa.View
open Go.RowKit Go.Fb
set_option linter.unusedVariables false
def wfU (x : Int) : Prop := (Lit.int .u64 x).wf = true
def flV (x y : BitVec 64) : Bool := decide (x &&& ~~~y = 0#64)
def flB (x y : Int) : Bool := flV (BitVec.ofInt 64 x) (BitVec.ofInt 64 y)
theorem toNat_u64 (v : BitVec 64) : IntKind.u64.wrap (v.toNat : Int) = (v.toNat : Int) := by
  have := v.isLt
  rw [IntKind.wrap_u64]; omega
theorem andNot_zero (x y : Int) : (bits BinOp.andNot IntKind.u64 x y == 0) = flB x y := by
  show (IntKind.u64.wrap ((BitVec.ofInt 64 x &&& ~~~(BitVec.ofInt 64 y)).toNat : Int) == 0) = _
  rw [toNat_u64]
  unfold flB flV
  by_cases h : BitVec.ofInt 64 x &&& ~~~(BitVec.ofInt 64 y) = 0#64
  · rw [h]; simp
  · rw [decide_eq_false h]
    simp only [beq_eq_false_iff_ne, ne_eq]
    intro e
    exact h (BitVec.eq_of_toNat_eq (by rw [BitVec.toNat_zero]; omega))
theorem flows_any (x y : Int) (w : World) : Calls Try.prog 27 #[.int .u64 x, .int .u64 y] w fun e w' => e = .returned (.bool (flB x y)) ∧ w = w' := by
  go_enter Try.func27, Try.ntmps27
  go_wp2_with fail
  go_ret
  exact ⟨by rw [← andNot_zero]; rfl, rfl⟩
def hasB (x : Int) (n : Nat) : Bool := (BitVec.ofInt 64 x).getLsbD n
theorem has_bit {x : Int} (h : wfU x) (n : Nat) (hn : n < 64) : (bits BinOp.and IntKind.u64 (x / 2 ^ n) 1 == 1) = hasB x n := by
  have hb : 0 ≤ x ∧ x ≤ 18446744073709551615 := by
    have h' : IntKind.u64.min ≤ x ∧ x ≤ IntKind.u64.max := by simpa [wfU, Lit.wf] using h
    exact h'
  obtain ⟨m, rfl⟩ : ∃ m : Nat, x = m := ⟨x.toNat, by omega⟩
  have hm : m < 18446744073709551616 := by omega
  have e : ((m : Int) / 2 ^ n) = ((m / 2 ^ n : Nat) : Int) := by simp
  have hq : m / 2 ^ n < 18446744073709551616 := Nat.lt_of_le_of_lt (Nat.div_le_self _ _) hm
  rw [e]
  show (IntKind.u64.wrap ((BitVec.ofInt 64 ((m / 2 ^ n : Nat) : Int) &&& BitVec.ofInt 64 1).toNat : Int) == 1) = _
  rw [toNat_u64]
  have e1 : (BitVec.ofInt 64 ((m / 2 ^ n : Nat) : Int) &&& BitVec.ofInt 64 1).toNat = m / 2 ^ n % 2 := by
    rw [BitVec.toNat_and, BitVec.ofInt_natCast, BitVec.toNat_ofNat, Nat.mod_eq_of_lt (by omega)]
    show m / 2 ^ n &&& 1 = _
    exact Nat.and_one_is_mod _
  rw [e1]
  unfold hasB
  rw [BitVec.ofInt_natCast, BitVec.getLsbD_ofNat]
  simp only [hn, decide_true, Bool.true_and]
  rw [Nat.testBit_eq_decide_div_mod_eq]
  by_cases h : m / 2 ^ n % 2 = 1
  · rw [h]; simp
  · have : m / 2 ^ n % 2 = 0 := by omega
    rw [this]; simp
theorem has_any {x : Int} (h : wfU x) (n : Nat) (hn : n < 64) (w : World) : Calls Try.prog 45 #[.int .u64 x, .int .i64 n] w fun e w' => e = .returned (.bool (hasB x n)) ∧ w = w' := by
  have E := Lib.hid (has_bit h n hn)
  have h0 : (0 : Int) ≤ (n : Int) := by omega
  have h1 : (n : Int) ≤ 63 := by omega
  go_enter Try.func45, Try.ntmps45
  go_wp2_with fail
  go_ret
  exact ⟨by rw [← E.out, ← Int.toNat_natCast n]; rfl, rfl⟩
theorem flB_bits {x y : Int} : flB x y = true ↔ ∀ n, n < 64 → hasB x n = true → hasB y n = true := by
  unfold flB flV hasB
  rw [decide_eq_true_iff]
  constructor
  · intro h n hn hx
    have := congrArg (fun v => v.getLsbD n) h
    simp only [BitVec.getLsbD_and, BitVec.getLsbD_not, hx, hn, decide_true, Bool.true_and, BitVec.getLsbD_zero] at this
    simpa using this
  · intro h
    refine BitVec.eq_of_getLsbD_eq fun n hn => ?_
    simp only [BitVec.getLsbD_and, BitVec.getLsbD_not, hn, decide_true, Bool.true_and, BitVec.getLsbD_zero]
    cases hx : (BitVec.ofInt 64 x).getLsbD n with
    | false => rfl
    | true => rw [h n hn hx]; rfl
theorem rflows_any {x y : Int} (hx : wfU x) (hy : wfU y) (w : World) : Calls Try.prog 34 #[.int .u64 x, .int .u64 y] w fun e w' => e = .returned (.bool (flB x y)) ∧ w = w' := by
  have HX := Lib.hid fun n (hn : n < 64) (w : World) => has_any hx n hn w
  have HY := Lib.hid fun n (hn : n < 64) (w : World) => has_any hy n hn w
  have HT : Hid ((∀ n, n < 64 → hasB x n = true → hasB y n = true) → flB x y = true) := Lib.hid flB_bits.2
  have HF : Hid (∀ n, n < 64 → hasB x n = true → hasB y n = false → flB x y = false) := Lib.hid fun n hn h1 h2 => by
    cases h : flB x y with
    | false => rfl
    | true => rw [flB_bits.1 h n hn h1] at h2; cases h2
  generalize flB x y = res at *
  go_enter Try.func34, Try.ntmps34
  go_wp2_with fail
  go_loop [5] (fun s => ∃ n : Nat, n ≤ 64 ∧ s = .int .i64 n ∧ Hid (∀ k, k < n → hasB x k = true → hasB y k = true)) (fun s => (64 - intOf s).toNat)
  case atStart => exact ⟨0, by omega, rfl, Lib.hid fun k hk => absurd hk (Nat.not_lt_zero _)⟩
  case round =>
    obtain ⟨n, hn, rfl, D⟩ := hrel
    by_cases hlt : n < 64
    · have f1 : (n : Int) < 64 := by omega
      have h1 := HX.out n hlt w
      have h2 := HY.out n hlt w
      cases hbx : hasB x n with
      | false =>
        rw [hbx] at h1
        have D2 : Hid (∀ k, k < n + 1 → hasB x k = true → hasB y k = true) := Lib.hid fun k hk hx' => by
          by_cases e : k = n
          · rw [e, hbx] at hx'; cases hx'
          · exact D.out k (by omega) hx'
        have H1 := Lib.hid h1
        clear h1
        clear h2 hbx
        go_wp2_with fail
        refine H1.out.mono ?_
        rintro e w1 ⟨rfl, rfl⟩
        go_wp2_with fail
        go_round
        case rel => exact ⟨n + 1, by omega, by go_num, D2⟩
        case measure => simp [intOf]; omega
      | true =>
        rw [hbx] at h1
        cases hby : hasB y n with
        | true =>
          rw [hby] at h2
          have D2 : Hid (∀ k, k < n + 1 → hasB x k = true → hasB y k = true) := Lib.hid fun k hk hx' => by
            by_cases e : k = n
            · rw [e, hby]
            · exact D.out k (by omega) hx'
          have H1 := Lib.hid h1
          have H2 := Lib.hid h2
          clear h1 h2
          clear hbx hby
          go_wp2_with fail
          refine H1.out.mono ?_
          rintro e w1 ⟨rfl, rfl⟩
          go_wp2_with fail
          refine H2.out.mono ?_
          rintro e w1 ⟨rfl, rfl⟩
          go_wp2_with fail
          go_round
          case rel => exact ⟨n + 1, by omega, by go_num, D2⟩
          case measure => simp [intOf]; omega
        | false =>
          rw [hby] at h2
          have E := Lib.hid (HF.out n hlt hbx hby)
          have H1 := Lib.hid h1
          have H2 := Lib.hid h2
          clear h1 h2
          clear hbx hby
          go_wp2_with fail
          refine H1.out.mono ?_
          rintro e w1 ⟨rfl, rfl⟩
          go_wp2_with fail
          refine H2.out.mono ?_
          rintro e w1 ⟨rfl, rfl⟩
          go_wp2_with fail
          go_ret
          exact ⟨by rw [E.out]; rfl, rfl⟩
    · obtain rfl : n = 64 := by omega
      have E := Lib.hid (HT.out D.out)
      go_wp2_with fail
      go_ret
      exact ⟨by rw [E.out]; rfl, rfl⟩
end Go.Proofs.Ytgdmajockejpgaa.View
