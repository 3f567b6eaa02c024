/- The walk of firebreaklaw12's fixed; LocksNames (layer 12). -/
import Derived.Test.YtjjlemkmdldljaaLocksU
namespace Go.Proofs.Ytjjlemkmdldljaa.Locks
open Go.RowKit Go.Fb
set_option linter.unusedVariables false
/-- Locks that have been made since w, and nothing of w has turned. -/
def Own (w wr : World) (b : Nat) (L : List (Int × List Int)) : Prop := ∃ F, At wr b F L ∧ (∀ k, F k → w.heap.size ≤ k) ∧ New w wr
theorem Own.fresh {w wr : World} {b : Nat} {L : List (Int × List Int)} (h : Own w wr b L) : New w wr := h.elim fun _ h => h.2.2
theorem Ends.own {w w1 w' : World} {b : Nat} {F : Nat → Prop} {L : List (Int × List Int)} {v : Value} {e : Ending} (h : Ends w1 b F L v e w') (hF : ∀ k, F k → w.heap.size ≤ k) (hn : New w w1) : e = .returned v ∧ Own w w' b L := by
  obtain ⟨h1, h2, h3⟩ := h
  refine ⟨h1, grow F w1 w', h2, fun k hk => ?_, hn.step h3 fun k hk e => absurd (hF k e) (Nat.not_le.2 hk)⟩
  rcases hk.1 with e | e
  · exact hF k e
  · exact Nat.le_trans hn.size e
def takeL (L : List (Int × List Int)) (n p : Int) : List (Int × List Int) × Bool × Int :=
  if wrongN L.length n p ≠ 0 then (L, false, wrongN L.length n p) else if (waitAt L p).2 then (L, false, 20) else
    (L.set n.toNat (takeAt (L.getD n.toNat (0, [])) p), decide ((takeAt (L.getD n.toNat (0, [])) p).1 = p), 0)
def giveL (L : List (Int × List Int)) (n p : Int) : List (Int × List Int) × Int × Int :=
  if wrongN L.length n p ≠ 0 then (L, 0, wrongN L.length n p) else (L.set n.toNat (giveAt (L.getD n.toNat (0, [])) p), (giveAt (L.getD n.toNat (0, [])) p).1, 0)
section
variable {w w1 : World} {b : Nat} {F : Nat → Prop} {L : List (Int × List Int)}
theorem take_any (h : At w b F L) (n p : Int) (hlen : ∀ x ∈ L, x.2.length ≤ 1048576) : Calls Try.prog 13 #[.pointer (some ⟨b, 0, none⟩), .int .i64 n, .int .i64 p] w (Ends w b F (takeL L n p).1 (.tuple #[.bool (takeL L n p).2.1, .int .i64 (takeL L n p).2.2])) := by
  unfold takeL
  by_cases he : wrongN L.length n p = 0
  · rw [if_neg (by simpa using he)]
    by_cases hq : (waitAt L p).2 = true
    · rw [if_pos hq]; exact take_waits h n p he hq
    · rw [if_neg hq]
      obtain ⟨k, rfl, hk, hp⟩ := wrong_zero he
      have e : L.getD k (0, []) = L[k] := by simp [List.getD_eq_getElem?_getD, List.getElem?_eq_getElem hk]
      rw [Int.toNat_natCast, e]
      exact take_good h k p hk hp (by simpa using hq) (hlen _ (List.getElem_mem hk))
  · rw [if_pos he]; exact take_bad h n p he
theorem give_any (h : At w b F L) (n p : Int) : Calls Try.prog 14 #[.pointer (some ⟨b, 0, none⟩), .int .i64 n, .int .i64 p] w (Ends w b F (giveL L n p).1 (.tuple #[.int .i64 (giveL L n p).2.1, .int .i64 (giveL L n p).2.2])) := by
  unfold giveL
  by_cases he : wrongN L.length n p = 0
  · rw [if_neg (by simpa using he)]
    obtain ⟨k, rfl, hk, hp⟩ := wrong_zero he
    have e : L.getD k (0, []) = L[k] := by simp [List.getD_eq_getElem?_getD, List.getElem?_eq_getElem hk]
    rw [Int.toNat_natCast, e]
    exact give_good h k p hk hp
  · rw [if_pos he]; exact give_bad h n p he
theorem take_own (h : Own w w1 b L) (n p : Int) (hlen : ∀ x ∈ L, x.2.length ≤ 1048576) : Calls Try.prog 13 #[.pointer (some ⟨b, 0, none⟩), .int .i64 n, .int .i64 p] w1 fun e w' => e = .returned (.tuple #[.bool (takeL L n p).2.1, .int .i64 (takeL L n p).2.2]) ∧ Own w w' b (takeL L n p).1 := by
  obtain ⟨F, h1, h2, h3⟩ := h
  exact (take_any h1 n p hlen).mono fun e w' he => he.own h2 h3
theorem give_own (h : Own w w1 b L) (n p : Int) : Calls Try.prog 14 #[.pointer (some ⟨b, 0, none⟩), .int .i64 n, .int .i64 p] w1 fun e w' => e = .returned (.tuple #[.int .i64 (giveL L n p).2.1, .int .i64 (giveL L n p).2.2]) ∧ Own w w' b (giveL L n p).1 := by
  obtain ⟨F, h1, h2, h3⟩ := h
  exact (give_any h1 n p).mono fun e w' he => he.own h2 h3
end
theorem new_own (w w0 : World) (hn : New w w0) (n : Int) : Calls Try.prog 8 #[.int .i64 n] w0 fun e w' =>
    ((0 ≤ n ∧ n ≤ 8 ∧ e = .returned (.tuple #[.pointer (some ⟨w0.heap.size, 0, none⟩), .int .i64 0]) ∧ Own w w' w0.heap.size (List.replicate n.toNat (-1, []))) ∨ (¬ (0 ≤ n ∧ n ≤ 8) ∧ e = .returned (.tuple #[.pointer none, .int .i64 1]) ∧ New w w')) := by
  refine (new_any n w0).mono fun e w' ⟨h0, h⟩ => ?_
  rcases h with ⟨h1, h2, h3, F, h4, h5⟩ | ⟨h1, h2⟩
  · exact .inl ⟨h1, h2, h3, F, h4, fun k hk => Nat.le_trans hn.size (h5 k hk), hn.trans h0⟩
  · exact .inr ⟨h1, h2, hn.trans h0⟩
set_option maxHeartbeats 1000000 in
theorem fixed_any (w : World) : Calls Try.prog 7 #[] w fun e w' => e = .returned (.bool true) ∧ New w w' := by
  have hnew := new_own w w (Kept.refl _ _) 2
  have k1 := fun b w1 (h : Own w w1 b [(-1, []), (-1, [])]) => take_own h 0 5 (by decide)
  have k2 := fun b w1 (h : Own w w1 b [(5, []), (-1, [])]) => take_own h 0 6 (by decide)
  have k3 := fun b w1 (h : Own w w1 b [(5, [6]), (-1, [])]) => take_own h 1 6 (by decide)
  have k4 := fun b w1 (h : Own w w1 b [(5, [6]), (-1, [])]) => give_own h 0 5
  have k5 := fun b w1 (h : Own w w1 b [(6, []), (-1, [])]) => take_own h 2 1 (by decide)
  rw [show takeL [(-1, []), (-1, [])] 0 5 = ([(5, []), (-1, [])], true, 0) by rfl] at k1
  rw [show takeL [(5, []), (-1, [])] 0 6 = ([(5, [6]), (-1, [])], false, 0) by rfl] at k2
  rw [show takeL [(5, [6]), (-1, [])] 1 6 = ([(5, [6]), (-1, [])], false, 20) by rfl] at k3
  rw [show giveL [(5, [6]), (-1, [])] 0 5 = ([(6, []), (-1, [])], 6, 0) by rfl] at k4
  rw [show takeL [(6, []), (-1, [])] 2 1 = ([(6, []), (-1, [])], false, 2) by rfl] at k5
  rw [show List.replicate (2 : Int).toNat ((-1, []) : Int × List Int) = [(-1, []), (-1, [])] from rfl] at hnew
  have HNEW := Lib.hid hnew
  have K1 := Lib.hid k1
  have K2 := Lib.hid k2
  have K3 := Lib.hid k3
  have K4 := Lib.hid k4
  have K5 := Lib.hid k5
  clear hnew k1 k2 k3 k4 k5
  go_enter Try.func7, Try.ntmps7
  go_wp2_with fail
  refine HNEW.out.mono ?_
  rintro e w1 hw1
  rcases hw1 with ⟨-, -, rfl, hw1⟩ | ⟨h, -, -⟩
  · have HW1 := Lib.hid hw1
    clear hw1
    go_wp2_with fail
    refine (K1.out _ _ HW1.out).mono ?_
    rintro e w2 ⟨rfl, hw2⟩
    have HW2 := Lib.hid hw2
    clear hw2
    go_wp2_with fail
    refine (K2.out _ _ HW2.out).mono ?_
    rintro e w3 ⟨rfl, hw3⟩
    have HW3 := Lib.hid hw3
    clear hw3
    go_wp2_with fail
    refine (K3.out _ _ HW3.out).mono ?_
    rintro e w4 ⟨rfl, hw4⟩
    have HW4 := Lib.hid hw4
    clear hw4
    go_wp2_with fail
    refine (K4.out _ _ HW4.out).mono ?_
    rintro e w5 ⟨rfl, hw5⟩
    have HW5 := Lib.hid hw5
    clear hw5
    go_wp2_with fail
    refine (K5.out _ _ HW5.out).mono ?_
    rintro e w6 ⟨rfl, hw6⟩
    have HW6 := Lib.hid hw6
    clear hw6
    go_wp2_with fail
    go_ret
    exact ⟨rfl, HW6.out.fresh⟩
  · exact absurd (by decide) h
theorem names_walk (w : World) : Calls Try.prog 3 #[] w fun e w' => e = .returned (.bool true) ∧ New w w' := by
  have hfix := fixed_any w
  have HFIX := Lib.hid hfix
  clear hfix
  go_enter Try.func3, Try.ntmps3
  go_wp2_with fail
  refine HFIX.out.mono ?_
  rintro e w1 ⟨rfl, hw1⟩
  have HW1 := Lib.hid hw1
  clear hw1
  go_wp2_with fail
  go_ret
  exact ⟨rfl, HW1.out⟩
end Go.Proofs.Ytjjlemkmdldljaa.Locks
