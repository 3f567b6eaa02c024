/- The walks of the document's answer for layer 4. -/
import Derived.Test.YthbnnnpnkhcemaaAluW
import Derived.Test.YthbnnnpnkhcemaaAluRefP
import Derived.Deep.QuietTactic
import Derived.BigQuiet
namespace Go.Proofs.Ythbnnnpnkhcemaa.Alu
open Go.RowKit Go.AluP
set_option linter.unusedVariables false

theorem ret_int {k : IntKind} {a b : Int} (h : a = b) : Ending.returned (.int k a) = .returned (.int k b) := by rw [h]

theorem size_any (n : Int) (w : World) (H : Hid (In n)) : Calls Try.prog 20 #[.int .i64 n] w fun e w' => e = .returned (.int .u64 (sz n)) ∧ w = w' := by
  obtain ⟨h1, h2⟩ := H.out
  clear H
  by_cases h0 : n < 0
  · have e : sz n = -n := by unfold sz; rw [if_pos h0]
    have E := Lib.hid e; clear e
    go_enter Try.func20, Try.ntmps20
    go_wp2
    go_ret
    exact ⟨ret_int (by rw [E.out]; omega), rfl⟩
  · have e : sz n = n := by unfold sz; rw [if_neg h0]
    have E := Lib.hid e; clear e
    go_enter Try.func20, Try.ntmps20
    go_wp2
    go_ret
    exact ⟨ret_int (by rw [E.out]), rfl⟩
theorem by_any (b c : Int) (w : World) (hb : In b) (hc : In c) : Calls Try.prog 15 #[.int .i64 b, .int .i64 c] w fun e w' => e = .returned (.int .i64 (quo b c)) ∧ w = w' := by
  by_cases h0 : c = 0
  · subst h0
    go_enter Try.func15, Try.ntmps15
    go_wp2
    go_ret
    exact ⟨rfl, rfl⟩
  · obtain ⟨hq1, hq2⟩ := quo_sz (b := b) h0
    obtain ⟨b0, b1⟩ := sz_in hb
    obtain ⟨c0, c1⟩ := sz_in hc
    have c2 : 1 ≤ sz c := by unfold sz; split <;> omega
    have q1 := IntWalk.tdiv_le (sz b) (sz c) b0 c2
    obtain ⟨B, hB⟩ : ∃ B, sz b = B := ⟨_, rfl⟩
    obtain ⟨C, hC⟩ : ∃ C, sz c = C := ⟨_, rfl⟩
    rw [hB] at b0 b1 q1 hq1 hq2
    rw [hC] at c0 c1 c2 q1 hq1 hq2
    have HQ1 := Lib.hid hq1
    have HQ2 := Lib.hid hq2
    have Hb := Lib.hid hb
    have Hc := Lib.hid hc
    have h0' : (c == 0) = false := by simpa using h0
    clear hb hc hq1 hq2
    go_enter Try.func15, Try.ntmps15
    go_wp2_with (go_at_call 20; refine (size_any _ _ (by assumption)).mono ?_; rintro e w' ⟨rfl, rfl⟩)
    · go_ret
      exact ⟨ret_int (by rw [HQ1.out (by assumption)]; unfold wrap64; rw [IntKind.wrap_u64]; omega), rfl⟩
    · go_ret
      exact ⟨ret_int (by rw [HQ2.out (by assumption)]), rfl⟩
theorem up_any (b c : Int) (w : World) (hb : In b) (hc : In c) : Calls Try.prog 17 #[.int .i64 b, .int .i64 c] w fun e w' => e = .returned (.int .i64 (shl b c)) ∧ w = w' := by
  have Hb := Lib.hid hb
  have Hc := Lib.hid hc
  clear hb hc
  go_enter Try.func17, Try.ntmps17
  go_wp2
  go_loop [0, 5] (fun v i => ∃ k : Nat, k ≤ 64 ∧ ((k : Int) ≤ c ∨ k = 0) ∧ i = .int .i64 k ∧ v = .int .i64 (upTo b k)) (fun _ i => (64 - intOf i).toNat)
  case atStart => exact ⟨0, by omega, .inr rfl, rfl, by rw [upTo_zero Hb.out]⟩
  case round =>
    obtain ⟨k, hk, hkc, rfl, rfl⟩ := hrel
    have HS := Lib.hid (upTo_succ b k)
    have HC := Lib.hid hkc
    clear hkc
    by_cases hlt : (k : Int) < c
    · by_cases hl2 : k < 64
      · go_wp2
        go_round
        case rel => exact ⟨k + 1, by omega, .inl (by omega), by go_num, by rw [HS.out]⟩
        case measure => simp [intOf]; omega
      · go_wp2
        go_ret
        exact ⟨by rw [← upTo_end Hb.out Hc.out k hk HC.out (by omega)]; rfl, rfl⟩
    · go_wp2
      go_ret
      exact ⟨by rw [← upTo_end Hb.out Hc.out k hk HC.out (by omega)]; rfl, rfl⟩
theorem down_any (b c : Int) (w : World) (hb : In b) (hc : In c) : Calls Try.prog 18 #[.int .i64 b, .int .i64 c] w fun e w' => e = .returned (.int .i64 (shr b c)) ∧ w = w' := by
  have Hb := Lib.hid hb
  have Hc := Lib.hid hc
  clear hb hc
  go_enter Try.func18, Try.ntmps18
  go_wp2
  go_loop [0, 5] (fun v i => ∃ k : Nat, k ≤ 64 ∧ ((k : Int) ≤ c ∨ k = 0) ∧ i = .int .i64 k ∧ v = .int .i64 (dnTo b k)) (fun _ i => (64 - intOf i).toNat)
  case atStart => exact ⟨0, by omega, .inr rfl, rfl, by rw [dnTo_zero]⟩
  case round =>
    obtain ⟨k, hk, hkc, rfl, rfl⟩ := hrel
    have HS := Lib.hid (dnTo_succ b k)
    have HC := Lib.hid hkc
    obtain ⟨i1, i2⟩ := dnTo_in Hb.out k
    obtain ⟨d, hd⟩ : ∃ d, dnTo b k = d := ⟨_, rfl⟩
    rw [hd] at i1 i2
    have HD := Lib.hid hd
    rw [hd]
    clear hkc hd
    by_cases hlt : (k : Int) < c
    · by_cases hl2 : k < 64
      · by_cases hn : d < 0
        · by_cases hm : d % 2 = 0
          · have hm' : (d.tmod 2 != 0) = false := by rw [tmod2 hn]; simp; omega
            go_wp2
            go_round
            case rel => exact ⟨k + 1, by omega, .inl (by omega), by go_num, by rw [HS.out, HD.out]; refine congrArg _ ?_; rw [tdiv2 (by omega)]; omega⟩
            case measure => simp [intOf]; omega
          · have hm' : (d.tmod 2 != 0) = true := by rw [tmod2 hn]; simp; omega
            go_wp2
            go_round
            case rel => exact ⟨k + 1, by omega, .inl (by omega), by go_num, by rw [HS.out, HD.out]; refine congrArg _ ?_; rw [tdiv2 (by omega)]; omega⟩
            case measure => simp [intOf]; omega
        · go_wp2
          go_round
          case rel => exact ⟨k + 1, by omega, .inl (by omega), by go_num, by rw [HS.out, HD.out]⟩
          case measure => simp [intOf]; omega
      · go_wp2
        go_ret
        exact ⟨by rw [← dnTo_end Hc.out k hk HC.out (by omega), HD.out]; rfl, rfl⟩
    · go_wp2
      go_ret
      exact ⟨by rw [← dnTo_end Hc.out k hk HC.out (by omega), HD.out]; rfl, rfl⟩
theorem truth_any (x : Bool) (w : World) : Calls Try.prog 19 #[.bool x] w fun e w' => e = .returned (.int .i64 (one x)) ∧ w = w' := by
  cases x <;> (go_enter Try.func19, Try.ntmps19; go_wp2; go_ret; exact ⟨rfl, rfl⟩)
/-- The world behind 'bits': its table's block, and draws. -/
def Boxed (t : Array Value) (w w' : World) : Prop := ∃ n, w' = (w.alloc (.cells t 34)).drewN n
set_option maxHeartbeats 1000000 in
theorem bits_walk (b c : Int) (x y R : BitVec 64) (t0 t1 t2 t3 : Nat) (w : World) (hx : IntKind.u64.wrap b = (x.toNat : Int)) (hy : IntKind.u64.wrap c = (y.toNat : Int))
    (hR : ∀ k, (R.getLsbD k).toNat = if x.getLsbD k = true then (if y.getLsbD k = true then t3 else t2) else (if y.getLsbD k = true then t1 else t0)) :
    Calls Try.prog 16 #[.int .i64 b, .int .i64 c, .agg #[.int .u64 t0, .int .u64 t1, .int .u64 t2, .int .u64 t3]] w fun e w' => e = .returned (.int .i64 R.toInt) ∧ Boxed #[.int .u64 t0, .int .u64 t1, .int .u64 t2, .int .u64 t3] w w' := by
  have HR := Lib.hid hR
  clear hR
  go_enter Try.func16, Try.ntmps16
  go_wp2
  go_loopw [9, 10] (fun v i wr => ∃ k : Nat, k ≤ 64 ∧ i = .int .i64 k ∧ v = .int .u64 (low R k) ∧ ∃ n, wr = (w.alloc (.cells #[.int .u64 t0, .int .u64 t1, .int .u64 t2, .int .u64 t3] 34)).drewN n) (fun _ i _ => (64 - intOf i).toNat)
  case atStart => exact ⟨0, by omega, rfl, by rw [low_zero]; rfl, 0, rfl⟩
  case round =>
    obtain ⟨k, hk, rfl, rfl, n, rfl⟩ := hrel
    by_cases hlt : k < 64
    · have bx := bit_at x k
      have yb := bit_at y k
      have hr := HR.out k
      have ho0 := Lib.hid (fun h => or_low R k t0 hlt h)
      have ho1 := Lib.hid (fun h => or_low R k t1 hlt h)
      have ho2 := Lib.hid (fun h => or_low R k t2 hlt h)
      have ho3 := Lib.hid (fun h => or_low R k t3 hlt h)
      cases h1 : x.getLsbD k <;> cases h2 : y.getLsbD k
      all_goals
        rw [h1, h2] at hr
        rw [h1] at bx
        rw [h2] at yb
        have hr' := Lib.hid hr
        clear hr h1 h2
        simp only [Bool.toNat_true, Bool.toNat_false, Int.natCast_zero, Int.natCast_one] at bx yb
        go_wp2
        go_quiet (fail)
        go_wp2
        go_roundw
        case measure => simp [intOf]; omega
        case rel => first
          | exact ⟨k + 1, by omega, by go_num, congrArg _ (ho0.out (hr'.out.symm)), _, rfl⟩
          | exact ⟨k + 1, by omega, by go_num, congrArg _ (ho1.out (hr'.out.symm)), _, rfl⟩
          | exact ⟨k + 1, by omega, by go_num, congrArg _ (ho2.out (hr'.out.symm)), _, rfl⟩
          | exact ⟨k + 1, by omega, by go_num, congrArg _ (ho3.out (hr'.out.symm)), _, rfl⟩
    · obtain rfl : k = 64 := by omega
      have hl := low_all R
      have he := i64_of_u64 R
      have He := Lib.hid he
      clear he
      go_wp2
      go_ret
      exact ⟨ret_int (by rw [← He.out, IntWalk.i64_left]), _, rfl⟩
theorem bits_and_any (b c : Int) (w : World) : Calls Try.prog 16 #[.int .i64 b, .int .i64 c, .agg #[.int .u64 0, .int .u64 0, .int .u64 0, .int .u64 1]] w fun e w' => e = .returned (.int .i64 (bits .and .i64 b c)) ∧ Boxed #[.int .u64 0, .int .u64 0, .int .u64 0, .int .u64 1] w w' := by
  rw [bits_and]
  refine bits_walk b c _ _ (BitVec.ofInt 64 b &&& BitVec.ofInt 64 c) 0 0 0 1 w (u64_of b) (u64_of c) fun k => ?_
  rw [BitVec.getLsbD_and]
  cases (BitVec.ofInt 64 b).getLsbD k <;> cases (BitVec.ofInt 64 c).getLsbD k <;> rfl
theorem bits_or_any (b c : Int) (w : World) : Calls Try.prog 16 #[.int .i64 b, .int .i64 c, .agg #[.int .u64 0, .int .u64 1, .int .u64 1, .int .u64 1]] w fun e w' => e = .returned (.int .i64 (bits .or .i64 b c)) ∧ Boxed #[.int .u64 0, .int .u64 1, .int .u64 1, .int .u64 1] w w' := by
  rw [bits_or]
  refine bits_walk b c _ _ (BitVec.ofInt 64 b ||| BitVec.ofInt 64 c) 0 1 1 1 w (u64_of b) (u64_of c) fun k => ?_
  rw [BitVec.getLsbD_or]
  cases (BitVec.ofInt 64 b).getLsbD k <;> cases (BitVec.ofInt 64 c).getLsbD k <;> rfl
theorem bits_xor_any (b c : Int) (w : World) : Calls Try.prog 16 #[.int .i64 b, .int .i64 c, .agg #[.int .u64 0, .int .u64 1, .int .u64 1, .int .u64 0]] w fun e w' => e = .returned (.int .i64 (bits .xor .i64 b c)) ∧ Boxed #[.int .u64 0, .int .u64 1, .int .u64 1, .int .u64 0] w w' := by
  rw [bits_xor]
  refine bits_walk b c _ _ (BitVec.ofInt 64 b ^^^ BitVec.ofInt 64 c) 0 1 1 0 w (u64_of b) (u64_of c) fun k => ?_
  rw [BitVec.getLsbD_xor]
  cases (BitVec.ofInt 64 b).getLsbD k <;> cases (BitVec.ofInt 64 c).getLsbD k <;> rfl

theorem grown_drewN {W w : World} (h : Grown W w) (n : Nat) : Grown W (w.drewN n) := h
set_option maxHeartbeats 2000000 in
theorem refDo_any (op b c : Int) (w : World) (Hb : Hid (In b)) (Hc : Hid (In c)) : Calls Try.prog 9 #[.int .i64 op, .int .i64 b, .int .i64 c] w fun e w' => e = .returned (.tuple #[.int .i64 (val op b c), .int .i64 (err op)]) ∧ Grown w w' := by
  go_enter Try.func9, Try.ntmps9
  go_wp2_with (first | (go_at_call 15; refine (by_any _ _ _ Hb.out Hc.out).mono ?_; rintro e w' ⟨rfl, rfl⟩) | (go_at_call 17; refine (up_any _ _ _ Hb.out Hc.out).mono ?_; rintro e w' ⟨rfl, rfl⟩) | (go_at_call 18; refine (down_any _ _ _ Hb.out Hc.out).mono ?_; rintro e w' ⟨rfl, rfl⟩) | (go_at_call 19; refine (truth_any _ _).mono ?_; rintro e w' ⟨rfl, rfl⟩) | (go_at_call 16; ((with_reducible refine (bits_and_any _ _ _).mono ?_); rintro e w' ⟨rfl, hb⟩; obtain ⟨n, rfl⟩ := hb)) | (go_at_call 16; ((with_reducible refine (bits_or_any _ _ _).mono ?_); rintro e w' ⟨rfl, hb⟩; obtain ⟨n, rfl⟩ := hb)) | (go_at_call 16; ((with_reducible refine (bits_xor_any _ _ _).mono ?_); rintro e w' ⟨rfl, hb⟩; obtain ⟨n, rfl⟩ := hb)))
  all_goals go_ret2
  all_goals first
    | (obtain rfl : op = 3 := WalkArith.int_eq (by assumption); exact ⟨rfl, by first | exact Grown.refl _ | exact grown_drewN ((Grown.refl _).alloc _ _) _⟩)
    | (obtain rfl : op = 4 := WalkArith.int_eq (by assumption); exact ⟨rfl, by first | exact Grown.refl _ | exact grown_drewN ((Grown.refl _).alloc _ _) _⟩)
    | (obtain rfl : op = 5 := WalkArith.int_eq (by assumption); exact ⟨rfl, by first | exact Grown.refl _ | exact grown_drewN ((Grown.refl _).alloc _ _) _⟩)
    | (obtain rfl : op = 6 := WalkArith.int_eq (by assumption); exact ⟨rfl, by first | exact Grown.refl _ | exact grown_drewN ((Grown.refl _).alloc _ _) _⟩)
    | (obtain rfl : op = 7 := WalkArith.int_eq (by assumption); exact ⟨rfl, by first | exact Grown.refl _ | exact grown_drewN ((Grown.refl _).alloc _ _) _⟩)
    | (obtain rfl : op = 8 := WalkArith.int_eq (by assumption); exact ⟨rfl, by first | exact Grown.refl _ | exact grown_drewN ((Grown.refl _).alloc _ _) _⟩)
    | (obtain rfl : op = 9 := WalkArith.int_eq (by assumption); exact ⟨rfl, by first | exact Grown.refl _ | exact grown_drewN ((Grown.refl _).alloc _ _) _⟩)
    | (obtain rfl : op = 10 := WalkArith.int_eq (by assumption); exact ⟨rfl, by first | exact Grown.refl _ | exact grown_drewN ((Grown.refl _).alloc _ _) _⟩)
    | (obtain rfl : op = 11 := WalkArith.int_eq (by assumption); exact ⟨rfl, by first | exact Grown.refl _ | exact grown_drewN ((Grown.refl _).alloc _ _) _⟩)
    | (obtain rfl : op = 12 := WalkArith.int_eq (by assumption); exact ⟨rfl, by first | exact Grown.refl _ | exact grown_drewN ((Grown.refl _).alloc _ _) _⟩)
    | (obtain rfl : op = 13 := WalkArith.int_eq (by assumption); exact ⟨rfl, by first | exact Grown.refl _ | exact grown_drewN ((Grown.refl _).alloc _ _) _⟩)
    | (obtain rfl : op = 14 := WalkArith.int_eq (by assumption); exact ⟨rfl, by first | exact Grown.refl _ | exact grown_drewN ((Grown.refl _).alloc _ _) _⟩)
    | (have k3 := WalkArith.int_ne (a := op) (b := 3) (by assumption)
       have k4 := WalkArith.int_ne (a := op) (b := 4) (by assumption)
       have k5 := WalkArith.int_ne (a := op) (b := 5) (by assumption)
       have k6 := WalkArith.int_ne (a := op) (b := 6) (by assumption)
       have k7 := WalkArith.int_ne (a := op) (b := 7) (by assumption)
       have k8 := WalkArith.int_ne (a := op) (b := 8) (by assumption)
       have k9 := WalkArith.int_ne (a := op) (b := 9) (by assumption)
       have k10 := WalkArith.int_ne (a := op) (b := 10) (by assumption)
       have k11 := WalkArith.int_ne (a := op) (b := 11) (by assumption)
       have k12 := WalkArith.int_ne (a := op) (b := 12) (by assumption)
       have k13 := WalkArith.int_ne (a := op) (b := 13) (by assumption)
       have k14 := WalkArith.int_ne (a := op) (b := 14) (by assumption)
       exact ⟨by rw [val_else (by omega), err_else (by omega)]; rfl, Grown.refl _⟩)
theorem grown_trans {a b c : World} (h : Grown a b) (k : Grown b c) : Grown a c :=
  ⟨World.keptBut_trans h.1 k.1, fun x => (k.2.1 x).trans (h.2.1 x), Nat.le_trans h.2.2 k.2.2⟩
set_option maxHeartbeats 1000000 in
theorem does_walk (op b c : Int) (w : World) (hb : In b) (hc : In c) : Calls Try.prog 4 #[.int .i64 op, .int .i64 b, .int .i64 c] w fun e w' => e = .returned (.bool true) ∧ Grown w w' := by
  have Hb := Lib.hid hb
  have Hc := Lib.hid hc
  clear hb hc
  go_enter Try.func4, Try.ntmps4
  go_wp2_with (first | (go_at_call 8; refine (Do_any _ _ _ _).mono ?_; rintro e w' ⟨rfl, rfl⟩) | (go_at_call 9; refine (refDo_any _ _ _ _ Hb Hc).mono ?_; rintro e w1 ⟨rfl, hg1⟩))
  go_loopw [11] (fun i wr => ∃ j : Int, -1 ≤ j ∧ j ≤ 35 ∧ i = .int .i64 j ∧ Grown w wr) (fun i _ => (35 - intOf i).toNat)
  case atStart => exact ⟨-1, by omega, by omega, rfl, hg1⟩
  case round =>
    obtain ⟨j, j0, j1, rfl, hg⟩ := hrel
    have HG := Lib.hid hg
    clear hg hg1
    by_cases hlt : j ≤ 34
    · go_wp2_with (first | (go_at_call 8; refine (Do_any _ _ _ _).mono ?_; rintro e w' ⟨rfl, rfl⟩) | (go_at_call 9; refine (refDo_any _ _ _ _ Hb Hc).mono ?_; rintro e w2 ⟨rfl, hg2⟩))
      go_roundw
      case rel => exact ⟨j + 1, by omega, by omega, rfl, grown_trans HG.out hg2⟩
      case measure => simp [intOf]; omega
    · go_wp2_with (go_at_call 7; refine (fixed_any _).mono ?_; rintro e w' ⟨rfl, rfl⟩)
      go_ret
      exact ⟨rfl, HG.out⟩
end Go.Proofs.Ythbnnnpnkhcemaa.Alu
