/- AluShifts walked: it returns true. -/
import Derived.Test.YthbnnnpnkhcemaaAluW
import Derived.Test.YthbnnnpnkhcemaaAluShiftsP
namespace Go.Proofs.Ythbnnnpnkhcemaa.Alu
open Go.RowKit Go.AluP
set_option linter.unusedVariables false

set_option maxRecDepth 100000 in
set_option maxHeartbeats 1600000 in
theorem shifts_a (b n m x y o up down : Int) (w : World) (n0 : 0 ≤ n) (n1 : n ≤ 255) (m0 : 0 ≤ m) (m1 : m ≤ 255) (hx : n % 70 = x) (hy : m % 70 = y) (x0 : 0 ≤ x) (x1 : x ≤ 69) (y0 : 0 ≤ y) (y1 : y ≤ 69)
    (ho : val 11 1 x = o) (hu : val 11 b x = up) (hd : val 12 b x = down) (e1 : val 5 b o = up) (e2 : val 11 up y = val 11 b (x + y)) (e3 : val 12 down y = val 12 b (x + y))
    (e5 : decide (down < 0) = decide (b < 0)) (e7 : val 11 b (-1 - x) = b) (e8 : val 12 b (-1 - x) = b) (h : 63 ≤ x) :
    Calls Try.prog 6 #[.int .i64 b, .int .u8 n, .int .u8 m] w fun e w' => e = .returned (.bool true) ∧ w = w' := by
  go_enter Try.func6, Try.ntmps6
  go_wp2_with (first | (go_at_call 10; refine (do_any _ _ _ _).mono ?_; rintro e w' ⟨rfl, rfl⟩) | (go_at_call 7; refine (fixed_any _).mono ?_; rintro e w' ⟨rfl, rfl⟩))
  go_ret
  exact ⟨rfl, rfl⟩

set_option maxRecDepth 100000 in
set_option maxHeartbeats 1600000 in
theorem shifts_b (b n m x y o up down : Int) (w : World) (n0 : 0 ≤ n) (n1 : n ≤ 255) (m0 : 0 ≤ m) (m1 : m ≤ 255) (hx : n % 70 = x) (hy : m % 70 = y) (x0 : 0 ≤ x) (x1 : x ≤ 69) (y0 : 0 ≤ y) (y1 : y ≤ 69)
    (ho : val 11 1 x = o) (hu : val 11 b x = up) (hd : val 12 b x = down) (e1 : val 5 b o = up) (e2 : val 11 up y = val 11 b (x + y)) (e3 : val 12 down y = val 12 b (x + y))
    (e5 : decide (down < 0) = decide (b < 0)) (e7 : val 11 b (-1 - x) = b) (e8 : val 12 b (-1 - x) = b) (h : x < 63) (p : Int) (hp : val 5 down o = p) (e9 : p ≤ b) (e10 : wrap64 (b - p) < o) (k1 : b ≤ 9223372036854775807 / 2 ^ x.toNat) (k2 : -9223372036854775808 / 2 ^ x.toNat ≤ b) (e4 : val 12 up x = b) :
    Calls Try.prog 6 #[.int .i64 b, .int .u8 n, .int .u8 m] w fun e w' => e = .returned (.bool true) ∧ w = w' := by
  go_enter Try.func6, Try.ntmps6
  go_wp2_with (first | (go_at_call 10; refine (do_any _ _ _ _).mono ?_; rintro e w' ⟨rfl, rfl⟩) | (go_at_call 7; refine (fixed_any _).mono ?_; rintro e w' ⟨rfl, rfl⟩))
  go_ret
  exact ⟨rfl, rfl⟩
set_option maxRecDepth 100000 in
set_option maxHeartbeats 1600000 in
theorem shifts_c (b n m x y o up down : Int) (w : World) (n0 : 0 ≤ n) (n1 : n ≤ 255) (m0 : 0 ≤ m) (m1 : m ≤ 255) (hx : n % 70 = x) (hy : m % 70 = y) (x0 : 0 ≤ x) (x1 : x ≤ 69) (y0 : 0 ≤ y) (y1 : y ≤ 69)
    (ho : val 11 1 x = o) (hu : val 11 b x = up) (hd : val 12 b x = down) (e1 : val 5 b o = up) (e2 : val 11 up y = val 11 b (x + y)) (e3 : val 12 down y = val 12 b (x + y))
    (e5 : decide (down < 0) = decide (b < 0)) (e7 : val 11 b (-1 - x) = b) (e8 : val 12 b (-1 - x) = b) (h : x < 63) (p : Int) (hp : val 5 down o = p) (e9 : p ≤ b) (e10 : wrap64 (b - p) < o) (k1 : 9223372036854775807 / 2 ^ x.toNat < b) :
    Calls Try.prog 6 #[.int .i64 b, .int .u8 n, .int .u8 m] w fun e w' => e = .returned (.bool true) ∧ w = w' := by
  go_enter Try.func6, Try.ntmps6
  go_wp2_with (first | (go_at_call 10; refine (do_any _ _ _ _).mono ?_; rintro e w' ⟨rfl, rfl⟩) | (go_at_call 7; refine (fixed_any _).mono ?_; rintro e w' ⟨rfl, rfl⟩))
  go_ret
  exact ⟨rfl, rfl⟩
set_option maxRecDepth 100000 in
set_option maxHeartbeats 1600000 in
theorem shifts_d (b n m x y o up down : Int) (w : World) (n0 : 0 ≤ n) (n1 : n ≤ 255) (m0 : 0 ≤ m) (m1 : m ≤ 255) (hx : n % 70 = x) (hy : m % 70 = y) (x0 : 0 ≤ x) (x1 : x ≤ 69) (y0 : 0 ≤ y) (y1 : y ≤ 69)
    (ho : val 11 1 x = o) (hu : val 11 b x = up) (hd : val 12 b x = down) (e1 : val 5 b o = up) (e2 : val 11 up y = val 11 b (x + y)) (e3 : val 12 down y = val 12 b (x + y))
    (e5 : decide (down < 0) = decide (b < 0)) (e7 : val 11 b (-1 - x) = b) (e8 : val 12 b (-1 - x) = b) (h : x < 63) (p : Int) (hp : val 5 down o = p) (e9 : p ≤ b) (e10 : wrap64 (b - p) < o) (k1 : b ≤ 9223372036854775807 / 2 ^ x.toNat) (k2 : b < -9223372036854775808 / 2 ^ x.toNat) :
    Calls Try.prog 6 #[.int .i64 b, .int .u8 n, .int .u8 m] w fun e w' => e = .returned (.bool true) ∧ w = w' := by
  go_enter Try.func6, Try.ntmps6
  go_wp2_with (first | (go_at_call 10; refine (do_any _ _ _ _).mono ?_; rintro e w' ⟨rfl, rfl⟩) | (go_at_call 7; refine (fixed_any _).mono ?_; rintro e w' ⟨rfl, rfl⟩))
  go_ret
  exact ⟨rfl, rfl⟩
theorem pw_toNat {x : Int} (h1 : x < 63) : pw x = 2 ^ x.toNat := by unfold pw; congr 1; omega
theorem shifts_walk (b n m : Int) (hb : In b) (n0 : 0 ≤ n) (n1 : n ≤ 255) (m0 : 0 ≤ m) (m1 : m ≤ 255) (w : World) : Calls Try.prog 6 #[.int .i64 b, .int .u8 n, .int .u8 m] w fun e w' => e = .returned (.bool true) ∧ w = w' := by
  have x0 : 0 ≤ n % 70 := by omega
  have x1 : n % 70 ≤ 69 := by omega
  have y0 : 0 ≤ m % 70 := by omega
  have y1 : m % 70 ≤ 69 := by omega
  have e1 := shl_one (b := b) x0 x1
  have e2 : val 11 (val 11 b (n % 70)) (m % 70) = val 11 b (n % 70 + m % 70) := shl_shl x0 x1 y0 y1
  have e3 : val 12 (val 12 b (n % 70)) (m % 70) = val 12 b (n % 70 + m % 70) := shr_shr hb x0 x1 y0 y1
  have e5 := shr_neg (b := b) x0 x1
  have e7 := shl_below (b := b) x0
  have e8 := shr_below (b := b) x0
  by_cases h : 63 ≤ n % 70
  · exact shifts_a b n m _ _ _ _ _ w n0 n1 m0 m1 rfl rfl x0 x1 y0 y1 rfl rfl rfl e1 e2 e3 e5 e7 e8 h
  · have h' : n % 70 < 63 := by omega
    obtain ⟨e9, e10, -⟩ := down_le (x := n % 70) hb x0 h'
    have hp := pw_toNat h'
    by_cases k1 : b ≤ 9223372036854775807 / 2 ^ (n % 70).toNat
    · by_cases k2 : -9223372036854775808 / 2 ^ (n % 70).toNat ≤ b
      · exact shifts_b b n m _ _ _ _ _ w n0 n1 m0 m1 rfl rfl x0 x1 y0 y1 rfl rfl rfl e1 e2 e3 e5 e7 e8 h' _ rfl e9 e10 k1 k2 (kept_back x0 h' (hp ▸ k1) (hp ▸ k2))
      · exact shifts_d b n m _ _ _ _ _ w n0 n1 m0 m1 rfl rfl x0 x1 y0 y1 rfl rfl rfl e1 e2 e3 e5 e7 e8 h' _ rfl e9 e10 k1 (by omega)
    · exact shifts_c b n m _ _ _ _ _ w n0 n1 m0 m1 rfl rfl x0 x1 y0 y1 rfl rfl rfl e1 e2 e3 e5 e7 e8 h' _ rfl e9 e10 (by omega)
end Go.Proofs.Ythbnnnpnkhcemaa.Alu
