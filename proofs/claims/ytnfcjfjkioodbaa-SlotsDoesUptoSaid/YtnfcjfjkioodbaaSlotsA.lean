/- The walk of SlotsAll. -/
import Derived.Test.YtnfcjfjkioodbaaSlotsM
namespace Go.Proofs.Ytnfcjfjkioodbaa.Slots
open Go.RowKit Go.Fb Go.SlotsP
set_option linter.unusedVariables false

theorem newE_ok {T : List Int} {parts : Int} (h : newE T parts = (0, 0)) : 1 ≤ parts ∧ parts ≤ 8 ∧ 0 < T.length ∧ T.length ≤ 64 ∧ ∀ x ∈ T, 0 ≤ x ∧ x < parts := by
  unfold newE at h
  split at h
  · simp at h
  · split at h
    · simp at h
    · split at h
      · simp at h
      · rename_i h1 h2 h3
        refine ⟨by omega, by omega, by omega, by omega, fun x hx => ?_⟩
        have := List.findIdx_eq_length.1 (Nat.le_antisymm List.findIdx_le_length (Nat.le_of_not_lt h3)) x hx
        simp [bad] at this
        omega
theorem newE_ne {T : List Int} {parts : Int} (h : newE T parts ≠ (0, 0)) : (newE T parts).1 ≠ 0 := by
  unfold newE at h ⊢
  split
  · decide
  · split
    · decide
    · split
      · simp
      · rename_i h1 h2 h3
        rw [if_neg h1, if_neg h2, if_neg h3] at h
        exact absurd rfl h
theorem long_no (A : Option Addr) (n c : Nat) (w : World) (hn : n ≤ c ∧ c ≤ 9223372036854775807) (h : n ≤ 1048576) : Calls Try.prog 7 #[.slice A n c] w fun e w' => e = .returned (.bool false) ∧ w = w' := by
  have := long_any A n c w hn
  rwa [decide_eq_false (by omega)] at this
theorem long_yes (A : Option Addr) (n c : Nat) (w : World) (hn : n ≤ c ∧ c ≤ 9223372036854775807) (h : ¬ n ≤ 1048576) : Calls Try.prog 7 #[.slice A n c] w fun e w' => e = .returned (.bool true) ∧ w = w' := by
  have := long_any A n c w hn
  rwa [decide_eq_true (by omega)] at this
theorem cntq {w : World} {lo b r o c : Nat} {T : List Int} (h : At w lo b r o c T) (p x y z : Int) (hx : x ≤ 9223372036854775807) (hy : y ≤ 9223372036854775807) (hz : count T p x y = z) : Calls Try.prog 15 #[.pointer (some ⟨b, 0, none⟩), .int .i64 p, .int .i64 x, .int .i64 y] w fun e w' => e = .returned (.int .i64 z) ∧ ∃ q, w' = w.drewN q := by
  subst hz; exact count_any h p x y hx hy
set_option maxHeartbeats 2000000 in
theorem all_walk (A : Option Addr) (n c : Nat) (T : List Int) (parts x y z : Int) (w : World) (hl : SliceOf (Rep.int .i64) w w.heap.size A n c T) (hx : -9223372036854775808 ≤ x ∧ x ≤ 9223372036854775807) (hy : -9223372036854775808 ≤ y ∧ y ≤ 9223372036854775807) (hz : -9223372036854775808 ≤ z ∧ z ≤ 9223372036854775807) :
    Calls Try.prog 5 #[.slice A n c, .int .i64 parts, .int .i64 x, .int .i64 y, .int .i64 z] w fun e w' => e = .returned (.bool true) ∧ New w w' := by
  have hb := hl.bound
  have hfix := fixed_any w
  by_cases hn : n ≤ 1048576
  · have hlong := fun W => long_no A n c W hb hn
    have hwf := hl.wf
    have HL := Lib.hid hl
    have HFIX := Lib.hid hfix
    have HLONG := Lib.hid hlong
    have HWF := Lib.hid hwf
    clear hl hfix hlong hwf
    go_enter Try.func5, Try.ntmps5
    go_wp2_with fail
    refine HFIX.out.mono ?_
    rintro e w1 ⟨rfl, hw1⟩
    have hl1 := (HL.out.kept hw1 (Nat.le_refl _) fun _ _ h => h).more hw1.size
    have hsrc := ints_src (hl1.alloc (Nat.le_refl _) (.cells #[] 3))
    have hrow0 : Row (w1.alloc (.cells #[] 3)) 1 none (some ⟨w1.heap.size, 0, none⟩) 0 0 [] := ⟨rfl, .inl ⟨rfl, rfl, rfl⟩⟩
    have hl1T := hl1.len
    have HW1 := Lib.hid hw1
    have HL1 := Lib.hid hl1
    have HSRC := Lib.hid hsrc
    have HROW0 := Lib.hid hrow0
    have HL1T := Lib.hid hl1T
    clear hw1 hl1 hsrc hrow0 hl1T
    go_wp2_with (first | (go_at_call 7; refine (HLONG.out _).mono ?_; rintro e w' ⟨rfl, rfl⟩) | (at_builtin; refine wpList_append_row tyInts rfl (.tmp 23) (.tmp 24) rfl rfl HROW0.out rfl HSRC.out (by unfold maxLen; omega) (by omega) ?_; intro r2 A2 c2 w2 hr2 hk2 hn2; rw [Nat.zero_add, List.nil_append] at hr2; have HR2 := Lib.hid hr2; have HK2 := Lib.hid hk2; clear hr2 hk2 hn2))
    have hw2 : New w w2 := HW1.out.trans (((Kept.refl _ _).alloc _).step HK2.out fun i hi e => by cases e)
    have hnew := new_any _ _ _ T parts w2 (ints_read HR2.out HWF.out)
    have HW2 := Lib.hid hw2
    clear hw2
    refine hnew.mono ?_
    clear hnew
    rintro e w3 ⟨hw3, ⟨hE, b, r, o, c', rfl, hA⟩ | ⟨hE, rfl⟩⟩
    · obtain ⟨p1, p2, p3, p4, p5⟩ := newE_ok hE
      obtain ⟨m, rfl⟩ : ∃ m : Nat, parts = m := ⟨parts.toNat, by omega⟩
      have hw3' := HW2.out.trans hw3
      have HW3' := Lib.hid hw3'
      have HA := Lib.hid hA
      have HE := Lib.hid hE
      have P5 := Lib.hid p5
      clear hw3' hA hE p5
      clear hw3
      by_cases hxy : y < x
      · go_wp2_with fail
        go_ret
        exact ⟨rfl, HW3'.out⟩
      by_cases hyz : z < y
      · have hxy' : x ≤ y := by omega
        clear hxy
        go_wp2_with fail
        go_ret
        exact ⟨rfl, HW3'.out⟩
      have hxy' : x ≤ y := by omega
      have hyz' : y ≤ z := by omega
      clear hxy hyz
      have C1 := Lib.hid (fun (k : Nat) q => cntq (HA.out.drewN q) k x z (count T k x z) (by omega) (by omega) rfl)
      have C2 := Lib.hid (fun (k : Nat) q => cntq (HA.out.drewN q) k x y (count T k x y) (by omega) (by omega) rfl)
      have C3 := Lib.hid (fun (k : Nat) q => cntq (HA.out.drewN q) k y z (count T k y z) (by omega) (by omega) rfl)
      have A1 := Lib.hid (fun (k : Nat) => count_add T k x y z hxy' hyz')
      have B1 := Lib.hid (fun k hk => sum_bd T x z (by omega) p3 m P5.out k hk)
      have S1 := Lib.hid (sum_count T m P5.out p3 x z (by omega))
      have G1 := Lib.hid (show ∀ p u v, 0 ≤ count T p u v from fun p u v => by unfold count; omega)
      have D1 := Lib.hid (show ∀ k : Nat, sumP T (fun p => count T p x z) (k + 1) = sumP T (fun p => count T p x z) k + count T k x z from fun k => rfl)
      have Z1 := Lib.hid (show sumP T (fun p => count T p x z) 0 = 0 from rfl)
      generalize sumP T (fun p => count T p x z) = S at *
      clear p1
      go_wp2_with fail
      go_loopg [15, 16] m (fun g s15 s16 wr => ∃ k q : Nat, k ≤ m ∧ m - k ≤ g ∧ s16 = .int .i64 k ∧ s15 = .int .i64 (S k) ∧ wr = w3.drewN q)
      case atStart => exact ⟨0, 0, by omega, by omega, rfl, by rw [Z1.out], rfl⟩
      case round =>
        obtain ⟨k, q, hk, hg, rfl, rfl, rfl⟩ := hrel
        by_cases hlt : k < m
        · have c1 := C1.out k
          have c2 := C2.out k
          have c3 := C3.out k
          have a1 := A1.out k
          have g1 := G1.out k x y
          have g2 := G1.out k y z
          have b1 := B1.out k (by omega)
          have b2 := B1.out (k + 1) (by omega)
          have d1 := D1.out k
          rw [d1] at b2
          generalize S k = s at *
          generalize count T k x z = u at *
          generalize count T k x y = u1 at *
          generalize count T k y z = u2 at *
          have b3 : s + u ≤ 9223372036854775807 := by omega
          have b4 : 0 ≤ s + u := by omega
          have b5 : 0 ≤ s := by omega
          obtain rfl : u = u1 + u2 := a1
          have K1 := Lib.hid c1
          have K2 := Lib.hid c2
          have K3 := Lib.hid c3
          have D2 := Lib.hid d1
          have B1 := Lib.hid b1
          have B2 := Lib.hid b2
          clear c1 c2 c3 d1 b1 b2
          go_wp2_with fail
          refine (K1.out _).mono ?_
          rintro e w' ⟨rfl, q1, rfl⟩
          go_wp2_with fail
          refine (K2.out _).mono ?_
          rintro e w' ⟨rfl, q2, rfl⟩
          go_wp2_with fail
          refine (K3.out _).mono ?_
          rintro e w' ⟨rfl, q3, rfl⟩
          go_wp2_with fail
          go_roundg (m - (k + 1))
          case measure => omega
          case rel => exact ⟨k + 1, _, by omega, by omega, by go_num, by rw [D2.out], rfl⟩
        · obtain rfl : k = m := by omega
          have hS := S1.out
          generalize S k = s at *
          have hN : New w (w3.drewN q) := HW3'.out.drewN q
          have HN := Lib.hid hN
          clear hN
          by_cases h0z : 0 ≤ z
          · by_cases h0x : 0 ≤ x
            · obtain rfl : s = z - x := by omega
              clear hS
              go_wp2_with fail
              all_goals (go_ret; exact ⟨by simp [Array.getD]; try omega, HN.out⟩)
            · obtain rfl : s = z := by omega
              clear hS
              have h0x' : x < 0 := by omega
              clear h0x
              go_wp2_with fail
              all_goals (go_ret; exact ⟨by simp [Array.getD]; try omega, HN.out⟩)
          · obtain rfl : s = 0 := by omega
            clear hS
            have h0z' : z < 0 := by omega
            have h0x' : x < 0 := by omega
            clear h0z
            go_wp2_with fail
            all_goals (go_ret; exact ⟨by simp [Array.getD]; try omega, HN.out⟩)
    · have hw3' := HW2.out.trans hw3
      have h1 : (newE T parts).1 ≠ 0 := newE_ne hE
      have HE := Lib.hid hE
      clear hE
      generalize hz1 : (newE T parts).1 = z1 at *
      generalize hz2 : (newE T parts).2 = z2 at *
      clear hz1 hz2
      have h2 : (z1 != 0) = true := by simpa using h1
      clear h1
      go_wp2_with fail
      go_ret
      exact ⟨rfl, hw3'⟩
  · have hlong := fun W => long_yes A n c W hb hn
    have HL := Lib.hid hl
    have HFIX := Lib.hid hfix
    have HLONG := Lib.hid hlong
    clear hl hfix hlong
    clear hn
    go_enter Try.func5, Try.ntmps5
    go_wp2_with fail
    refine HFIX.out.mono ?_
    rintro e w1 ⟨rfl, hw1⟩
    go_wp2_with (refine (HLONG.out _).mono ?_; rintro e w' ⟨rfl, rfl⟩)
    go_ret
    exact ⟨rfl, hw1⟩
end Go.Proofs.Ytnfcjfjkioodbaa.Slots
