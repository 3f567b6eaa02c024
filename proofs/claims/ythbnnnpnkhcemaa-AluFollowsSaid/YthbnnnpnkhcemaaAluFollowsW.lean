/- AluFollows walked: it returns true. -/
import Derived.Test.YthbnnnpnkhcemaaAluW
namespace Go.Proofs.Ythbnnnpnkhcemaa.Alu
open Go.RowKit Go.AluP
set_option linter.unusedVariables false

theorem one_ge (x : Bool) : 0 ≤ one x ∧ one x ≤ 1 := by cases x <;> decide
theorem one_eq (x : Bool) : (one x == 1) = x := by cases x <;> decide
theorem three (b c : Int) : val 13 b c + val 13 c b + val 14 b c = 1 := by
  rw [val13, val13, val14]
  rcases Int.lt_trichotomy b c with h | h | h
  · have h1 : decide (b < c) = true := by simpa using h
    have h2 : decide (c < b) = false := by simp; omega
    have h3 : (b == c) = false := by simp; omega
    rw [h1, h2, h3]; rfl
  · subst h; simp [one]
  · have h1 : decide (b < c) = false := by simp; omega
    have h2 : decide (c < b) = true := by simpa using h
    have h3 : (b == c) = false := by simp; omega
    rw [h1, h2, h3]; rfl

set_option maxRecDepth 100000 in
set_option maxHeartbeats 1600000 in
theorem follows_a (b c q r l m s : Int) (w : World) (e1 : val 4 (val 3 b c) c = b) (e2 : val 3 (val 4 b c) c = b) (e3 : val 10 (val 10 b c) c = b) (hq : val 6 b c = q) (hr : val 7 b c = r) (e4 : val 3 (val 5 q c) r = b)
    (e5 : val 3 (val 8 b c) (val 9 b c) = val 3 b c) (e6 : val 4 (val 9 b c) (val 8 b c) = val 10 b c)
    (hl : val 13 b c = l) (hm : val 13 c b = m) (hs : val 14 b c = s) (l0 : 0 ≤ l) (m0 : 0 ≤ m) (s0 : 0 ≤ s) (l1 : l ≤ 1) (m1 : m ≤ 1) (s1 : s ≤ 1) (sum : l + m + s = 1)
    (tl : (l == 1) = decide (b < c)) (ts : (s == 1) = (b == c)) (rr1 : -9223372036854775808 ≤ r) (rr2 : r ≤ 9223372036854775807) (cc1 : -9223372036854775808 ≤ c) (cc2 : c ≤ 9223372036854775807) (hx : c = 0) :
    Calls Try.prog 5 #[.int .i64 b, .int .i64 c] w fun e w' => e = .returned (.bool true) ∧ w = w' := by
  subst hx
  go_enter Try.func5, Try.ntmps5
  dsimp only [List.append]
  go_wp2_with (first | (go_at_call 10; refine (do_any _ _ _ _).mono ?_; rintro e w' ⟨rfl, rfl⟩) | (go_at_call 7; refine (fixed_any _).mono ?_; rintro e w' ⟨rfl, rfl⟩))
  go_ret
  exact ⟨rfl, rfl⟩
set_option maxRecDepth 100000 in
set_option maxHeartbeats 1600000 in
theorem follows_b (b c q r l m s : Int) (w : World) (e1 : val 4 (val 3 b c) c = b) (e2 : val 3 (val 4 b c) c = b) (e3 : val 10 (val 10 b c) c = b) (hq : val 6 b c = q) (hr : val 7 b c = r) (e4 : val 3 (val 5 q c) r = b)
    (e5 : val 3 (val 8 b c) (val 9 b c) = val 3 b c) (e6 : val 4 (val 9 b c) (val 8 b c) = val 10 b c)
    (hl : val 13 b c = l) (hm : val 13 c b = m) (hs : val 14 b c = s) (l0 : 0 ≤ l) (m0 : 0 ≤ m) (s0 : 0 ≤ s) (l1 : l ≤ 1) (m1 : m ≤ 1) (s1 : s ≤ 1) (sum : l + m + s = 1)
    (tl : (l == 1) = decide (b < c)) (ts : (s == 1) = (b == c)) (rr1 : -9223372036854775808 ≤ r) (rr2 : r ≤ 9223372036854775807) (cc1 : -9223372036854775808 ≤ c) (cc2 : c ≤ 9223372036854775807) (hx : 0 < c) (h1 : r = 0) :
    Calls Try.prog 5 #[.int .i64 b, .int .i64 c] w fun e w' => e = .returned (.bool true) ∧ w = w' := by
  subst h1
  go_enter Try.func5, Try.ntmps5
  dsimp only [List.append]
  go_wp2_with (first | (go_at_call 10; refine (do_any _ _ _ _).mono ?_; rintro e w' ⟨rfl, rfl⟩) | (go_at_call 7; refine (fixed_any _).mono ?_; rintro e w' ⟨rfl, rfl⟩))
  go_ret
  exact ⟨rfl, rfl⟩
set_option maxRecDepth 100000 in
set_option maxHeartbeats 1600000 in
theorem follows_c (b c q r l m s : Int) (w : World) (e1 : val 4 (val 3 b c) c = b) (e2 : val 3 (val 4 b c) c = b) (e3 : val 10 (val 10 b c) c = b) (hq : val 6 b c = q) (hr : val 7 b c = r) (e4 : val 3 (val 5 q c) r = b)
    (e5 : val 3 (val 8 b c) (val 9 b c) = val 3 b c) (e6 : val 4 (val 9 b c) (val 8 b c) = val 10 b c)
    (hl : val 13 b c = l) (hm : val 13 c b = m) (hs : val 14 b c = s) (l0 : 0 ≤ l) (m0 : 0 ≤ m) (s0 : 0 ≤ s) (l1 : l ≤ 1) (m1 : m ≤ 1) (s1 : s ≤ 1) (sum : l + m + s = 1)
    (tl : (l == 1) = decide (b < c)) (ts : (s == 1) = (b == c)) (rr1 : -9223372036854775808 ≤ r) (rr2 : r ≤ 9223372036854775807) (cc1 : -9223372036854775808 ≤ c) (cc2 : c ≤ 9223372036854775807) (hx : 0 < c) (h1 : 0 < r) (h2 : 0 ≤ b) (h3 : r < c) :
    Calls Try.prog 5 #[.int .i64 b, .int .i64 c] w fun e w' => e = .returned (.bool true) ∧ w = w' := by
  go_enter Try.func5, Try.ntmps5
  dsimp only [List.append]
  go_wp2_with (first | (go_at_call 10; refine (do_any _ _ _ _).mono ?_; rintro e w' ⟨rfl, rfl⟩) | (go_at_call 7; refine (fixed_any _).mono ?_; rintro e w' ⟨rfl, rfl⟩))
  go_ret
  exact ⟨rfl, rfl⟩
set_option maxRecDepth 100000 in
set_option maxHeartbeats 1600000 in
theorem follows_d (b c q r l m s : Int) (w : World) (e1 : val 4 (val 3 b c) c = b) (e2 : val 3 (val 4 b c) c = b) (e3 : val 10 (val 10 b c) c = b) (hq : val 6 b c = q) (hr : val 7 b c = r) (e4 : val 3 (val 5 q c) r = b)
    (e5 : val 3 (val 8 b c) (val 9 b c) = val 3 b c) (e6 : val 4 (val 9 b c) (val 8 b c) = val 10 b c)
    (hl : val 13 b c = l) (hm : val 13 c b = m) (hs : val 14 b c = s) (l0 : 0 ≤ l) (m0 : 0 ≤ m) (s0 : 0 ≤ s) (l1 : l ≤ 1) (m1 : m ≤ 1) (s1 : s ≤ 1) (sum : l + m + s = 1)
    (tl : (l == 1) = decide (b < c)) (ts : (s == 1) = (b == c)) (rr1 : -9223372036854775808 ≤ r) (rr2 : r ≤ 9223372036854775807) (cc1 : -9223372036854775808 ≤ c) (cc2 : c ≤ 9223372036854775807) (hx : 0 < c) (h1 : r < 0) (h2 : b < 0) (h3 : -c < r) :
    Calls Try.prog 5 #[.int .i64 b, .int .i64 c] w fun e w' => e = .returned (.bool true) ∧ w = w' := by
  go_enter Try.func5, Try.ntmps5
  dsimp only [List.append]
  go_wp2_with (first | (go_at_call 10; refine (do_any _ _ _ _).mono ?_; rintro e w' ⟨rfl, rfl⟩) | (go_at_call 7; refine (fixed_any _).mono ?_; rintro e w' ⟨rfl, rfl⟩))
  go_ret
  exact ⟨rfl, rfl⟩
set_option maxRecDepth 100000 in
set_option maxHeartbeats 1600000 in
theorem follows_e (b c q r l m s : Int) (w : World) (e1 : val 4 (val 3 b c) c = b) (e2 : val 3 (val 4 b c) c = b) (e3 : val 10 (val 10 b c) c = b) (hq : val 6 b c = q) (hr : val 7 b c = r) (e4 : val 3 (val 5 q c) r = b)
    (e5 : val 3 (val 8 b c) (val 9 b c) = val 3 b c) (e6 : val 4 (val 9 b c) (val 8 b c) = val 10 b c)
    (hl : val 13 b c = l) (hm : val 13 c b = m) (hs : val 14 b c = s) (l0 : 0 ≤ l) (m0 : 0 ≤ m) (s0 : 0 ≤ s) (l1 : l ≤ 1) (m1 : m ≤ 1) (s1 : s ≤ 1) (sum : l + m + s = 1)
    (tl : (l == 1) = decide (b < c)) (ts : (s == 1) = (b == c)) (rr1 : -9223372036854775808 ≤ r) (rr2 : r ≤ 9223372036854775807) (cc1 : -9223372036854775808 ≤ c) (cc2 : c ≤ 9223372036854775807) (hx : c < 0) (h1 : r = 0) :
    Calls Try.prog 5 #[.int .i64 b, .int .i64 c] w fun e w' => e = .returned (.bool true) ∧ w = w' := by
  subst h1
  go_enter Try.func5, Try.ntmps5
  dsimp only [List.append]
  go_wp2_with (first | (go_at_call 10; refine (do_any _ _ _ _).mono ?_; rintro e w' ⟨rfl, rfl⟩) | (go_at_call 7; refine (fixed_any _).mono ?_; rintro e w' ⟨rfl, rfl⟩))
  go_ret
  exact ⟨rfl, rfl⟩
set_option maxRecDepth 100000 in
set_option maxHeartbeats 1600000 in
theorem follows_f (b c q r l m s : Int) (w : World) (e1 : val 4 (val 3 b c) c = b) (e2 : val 3 (val 4 b c) c = b) (e3 : val 10 (val 10 b c) c = b) (hq : val 6 b c = q) (hr : val 7 b c = r) (e4 : val 3 (val 5 q c) r = b)
    (e5 : val 3 (val 8 b c) (val 9 b c) = val 3 b c) (e6 : val 4 (val 9 b c) (val 8 b c) = val 10 b c)
    (hl : val 13 b c = l) (hm : val 13 c b = m) (hs : val 14 b c = s) (l0 : 0 ≤ l) (m0 : 0 ≤ m) (s0 : 0 ≤ s) (l1 : l ≤ 1) (m1 : m ≤ 1) (s1 : s ≤ 1) (sum : l + m + s = 1)
    (tl : (l == 1) = decide (b < c)) (ts : (s == 1) = (b == c)) (rr1 : -9223372036854775808 ≤ r) (rr2 : r ≤ 9223372036854775807) (cc1 : -9223372036854775808 ≤ c) (cc2 : c ≤ 9223372036854775807) (hx : c < 0) (h1 : 0 < r) (h2 : 0 ≤ b) (h3 : r < -c) :
    Calls Try.prog 5 #[.int .i64 b, .int .i64 c] w fun e w' => e = .returned (.bool true) ∧ w = w' := by
  go_enter Try.func5, Try.ntmps5
  dsimp only [List.append]
  go_wp2_with (first | (go_at_call 10; refine (do_any _ _ _ _).mono ?_; rintro e w' ⟨rfl, rfl⟩) | (go_at_call 7; refine (fixed_any _).mono ?_; rintro e w' ⟨rfl, rfl⟩))
  go_ret
  exact ⟨rfl, rfl⟩
set_option maxRecDepth 100000 in
set_option maxHeartbeats 1600000 in
theorem follows_g (b c q r l m s : Int) (w : World) (e1 : val 4 (val 3 b c) c = b) (e2 : val 3 (val 4 b c) c = b) (e3 : val 10 (val 10 b c) c = b) (hq : val 6 b c = q) (hr : val 7 b c = r) (e4 : val 3 (val 5 q c) r = b)
    (e5 : val 3 (val 8 b c) (val 9 b c) = val 3 b c) (e6 : val 4 (val 9 b c) (val 8 b c) = val 10 b c)
    (hl : val 13 b c = l) (hm : val 13 c b = m) (hs : val 14 b c = s) (l0 : 0 ≤ l) (m0 : 0 ≤ m) (s0 : 0 ≤ s) (l1 : l ≤ 1) (m1 : m ≤ 1) (s1 : s ≤ 1) (sum : l + m + s = 1)
    (tl : (l == 1) = decide (b < c)) (ts : (s == 1) = (b == c)) (rr1 : -9223372036854775808 ≤ r) (rr2 : r ≤ 9223372036854775807) (cc1 : -9223372036854775808 ≤ c) (cc2 : c ≤ 9223372036854775807) (hx : c < 0) (h1 : r < 0) (h2 : b < 0) (h3 : c < r) :
    Calls Try.prog 5 #[.int .i64 b, .int .i64 c] w fun e w' => e = .returned (.bool true) ∧ w = w' := by
  go_enter Try.func5, Try.ntmps5
  dsimp only [List.append]
  go_wp2_with (first | (go_at_call 10; refine (do_any _ _ _ _).mono ?_; rintro e w' ⟨rfl, rfl⟩) | (go_at_call 7; refine (fixed_any _).mono ?_; rintro e w' ⟨rfl, rfl⟩))
  go_ret
  exact ⟨rfl, rfl⟩
theorem follows_walk (b c : Int) (hb : In b) (hc : In c) (w : World) : Calls Try.prog 5 #[.int .i64 b, .int .i64 c] w fun e w' => e = .returned (.bool true) ∧ w = w' := by
  have e1 := add_sub (c := c) hb
  have e2 := sub_add (c := c) hb
  have e3 := xor_back (c := c) hb
  have e4 := quo_rem (c := c) hb
  have e5 := and_or' hb hc
  have e6 := @or_and' b c
  have hs := @rem_sign b c hb
  have hz := @rem_size b c hb
  obtain ⟨r1, r2⟩ := val7_in b c
  obtain ⟨c1, c2⟩ := id hc
  have l0 := one_ge (decide (b < c))
  have m0 := one_ge (decide (c < b))
  have s0 := one_ge (b == c)
  have hsum := three b c
  have tl := one_eq (decide (b < c))
  have ts := one_eq (b == c)
  rw [← val13] at l0 m0 tl
  rw [← val14] at s0 ts
  rcases Int.lt_trichotomy c 0 with h | h | h
  · obtain ⟨sa, sb⟩ := hs (by omega)
    obtain ⟨z1, z2⟩ := (hz (by omega)).2 h
    rcases Int.lt_trichotomy (val 7 b c) 0 with k | k | k
    · exact follows_g b c _ _ _ _ _ w e1 e2 e3 rfl rfl e4 e5 e6 rfl rfl rfl l0.1 m0.1 s0.1 l0.2 m0.2 s0.2 hsum tl ts r1 r2 c1 c2 h k (by omega) z2
    · exact follows_e b c _ _ _ _ _ w e1 e2 e3 rfl rfl e4 e5 e6 rfl rfl rfl l0.1 m0.1 s0.1 l0.2 m0.2 s0.2 hsum tl ts r1 r2 c1 c2 h k
    · exact follows_f b c _ _ _ _ _ w e1 e2 e3 rfl rfl e4 e5 e6 rfl rfl rfl l0.1 m0.1 s0.1 l0.2 m0.2 s0.2 hsum tl ts r1 r2 c1 c2 h k (by omega) z1
  · exact follows_a b c _ _ _ _ _ w e1 e2 e3 rfl rfl e4 e5 e6 rfl rfl rfl l0.1 m0.1 s0.1 l0.2 m0.2 s0.2 hsum tl ts r1 r2 c1 c2 h
  · obtain ⟨sa, sb⟩ := hs (by omega)
    obtain ⟨z1, z2⟩ := (hz (by omega)).1 h
    rcases Int.lt_trichotomy (val 7 b c) 0 with k | k | k
    · exact follows_d b c _ _ _ _ _ w e1 e2 e3 rfl rfl e4 e5 e6 rfl rfl rfl l0.1 m0.1 s0.1 l0.2 m0.2 s0.2 hsum tl ts r1 r2 c1 c2 h k (by omega) z2
    · exact follows_b b c _ _ _ _ _ w e1 e2 e3 rfl rfl e4 e5 e6 rfl rfl rfl l0.1 m0.1 s0.1 l0.2 m0.2 s0.2 hsum tl ts r1 r2 c1 c2 h k
    · exact follows_c b c _ _ _ _ _ w e1 e2 e3 rfl rfl e4 e5 e6 rfl rfl rfl l0.1 m0.1 s0.1 l0.2 m0.2 s0.2 hsum tl ts r1 r2 c1 c2 h k (by omega) z1
end Go.Proofs.Ythbnnnpnkhcemaa.Alu
