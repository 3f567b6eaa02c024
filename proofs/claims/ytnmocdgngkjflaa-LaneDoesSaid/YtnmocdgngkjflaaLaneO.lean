/- A lane of one's own; the walk of firebreaklaw09's fixed (layer 9). -/
import Derived.Test.YtnmocdgngkjflaaLaneU
namespace Go.Proofs.Ytnmocdgngkjflaa.Lane
open Go.RowKit Go.Fb
set_option linter.unusedVariables false
/-- A lane that has been made since w, and nothing of w has turned. -/
def Own (w wr : World) (b : Nat) (L : Lane) : Prop := ∃ F, At wr b F L ∧ (∀ k, F k → w.heap.size ≤ k) ∧ New w wr
theorem Own.new {w wr w' : World} {b : Nat} {L : Lane} (h : Own w wr b L) (hk : New wr w') : Own w w' b L := by
  obtain ⟨F, h1, h2, h3⟩ := h
  exact ⟨F, h1.new hk, h2, h3.trans hk⟩
theorem Own.fresh {w wr : World} {b : Nat} {L : Lane} (h : Own w wr b L) : New w wr := h.elim fun _ h => h.2.2
theorem Ends.own {w w1 w' : World} {b : Nat} {F : Nat → Prop} {L : Lane} {v : Value} {e : Ending} (h : Ends w1 b F L v e w') (hF : ∀ k, F k → w.heap.size ≤ k) (hn : New w w1) : e = .returned v ∧ Own w w' b L := by
  obtain ⟨h1, h2, h3⟩ := h
  refine ⟨h1, grow F w1 w', h2, fun k hk => ?_, hn.step h3 fun k hk e => absurd (hF k e) (Nat.not_le.2 hk)⟩
  rcases hk.1 with e | e
  · exact hF k e
  · exact Nat.le_trans hn.size e
section
variable {w w1 : World} {b : Nat} {L : Lane}
theorem put_own (h : Own w w1 b L) (v : Int) (hlen : L.vals.length ≤ 1048576) : Calls Try.prog 7 #[.pointer (some ⟨b, 0, none⟩), .int .i64 v] w1 fun e w' => e = .returned (.int .i64 (putL L v).2) ∧ Own w w' b (putL L v).1 := by
  obtain ⟨F, h1, h2, h3⟩ := h
  exact (put_any h1 v hlen).mono fun e w' he => he.own h2 h3
theorem wait_own (h : Own w w1 b L) (p v : Int) (hlen : L.waits.length ≤ 8000000000000) : Calls Try.prog 8 #[.pointer (some ⟨b, 0, none⟩), .int .i64 p, .int .i64 v] w1 fun e w' => e = .returned (.int .i64 (waitL L p v).2) ∧ Own w w' b (waitL L p v).1 := by
  obtain ⟨F, h1, h2, h3⟩ := h
  exact (wait_any h1 p v hlen).mono fun e w' he => he.own h2 h3
def takeL (L : Lane) : Lane × Value := match L.vals, L.waits with
  | [], _ => (L, tookV 0 (0, 0) false 21)
  | v :: rest, [] => ({ L with vals := rest, taken := min (L.taken + 1) 65535 }, tookV v (0, 0) false 0)
  | v :: rest, q :: ws => ({ L with vals := rest ++ [q.2], waits := ws, taken := min (L.taken + 1) 65535 }, tookV v q true 0)
theorem take_own (h : Own w w1 b L) (hlen : L.vals.length ≤ 1048576) (ht : 0 ≤ L.taken ∧ L.taken ≤ 65535) : Calls Try.prog 9 #[.pointer (some ⟨b, 0, none⟩)] w1 fun e w' => e = .returned (takeL L).2 ∧ Own w w' b (takeL L).1 := by
  obtain ⟨F, h1, h2, h3⟩ := h
  unfold takeL
  split
  · rename_i hv
    exact (take_none h1 hv).mono fun e w' he => he.own h2 h3
  · rename_i v rest hv hw
    exact (take_plain h1 v rest hv hw ht).mono fun e w' he => he.own h2 h3
  · rename_i v rest q ws hv hw
    exact (take_in h1 v rest hv q ws hw hlen ht).mono fun e w' he => he.own h2 h3
theorem len_own (h : Own w w1 b L) : Calls Try.prog 10 #[.pointer (some ⟨b, 0, none⟩)] w1 fun e w' => e = .returned (.int .i64 L.vals.length) ∧ w1 = w' := by
  obtain ⟨F, h1, h2, h3⟩ := h
  exact len_any h1
end
theorem new_own (w w0 : World) (hn : New w w0) (room : Int) : Calls Try.prog 6 #[.int .i64 room] w0 fun e w' =>
    ((1 ≤ room ∧ room ≤ 64 ∧ e = .returned (.tuple #[.pointer (some ⟨w0.heap.size, 0, none⟩), .int .i64 0]) ∧ Own w w' w0.heap.size (empty room)) ∨ (¬ (1 ≤ room ∧ room ≤ 64) ∧ e = .returned (.tuple #[.pointer none, .int .i64 1]) ∧ New w w')) := by
  refine (new_any room w0).mono fun e w' ⟨h0, h⟩ => ?_
  rcases h with ⟨h1, h2, h3, h4⟩ | ⟨h1, h2⟩
  · exact .inl ⟨h1, h2, h3, _, h4, (by rintro k rfl; exact hn.size), hn.trans h0⟩
  · exact .inr ⟨h1, h2, hn.trans h0⟩
set_option maxHeartbeats 1000000 in
theorem fixed_any (w : World) : Calls Try.prog 5 #[] w fun e w' => e = .returned (.bool true) ∧ New w w' := by
  have hnew := new_own w w (Kept.refl _ _) 1
  have hput := fun b w1 (h : Own w w1 b (empty 1)) => put_own h 5 (by decide)
  have hput2 := fun b w1 (h : Own w w1 b ⟨1, [5], [], 0, 0⟩) => put_own h 6 (by decide)
  have hwait := fun b w1 (h : Own w w1 b ⟨1, [5], [], 0, 0⟩) => wait_own h 3 9 (by decide)
  have htake := fun b w1 (h : Own w w1 b ⟨1, [5], [(3, 9)], 0, 0⟩) => take_own h (by decide) (by decide)
  have hlen := fun b w1 (h : Own w w1 b ⟨1, [9], [], 1, 0⟩) => len_own h
  rw [show putL (empty 1) 5 = (⟨1, [5], [], 0, 0⟩, 0) by simp [putL, empty]] at hput
  rw [show putL ⟨1, [5], [], 0, 0⟩ 6 = (⟨1, [5], [], 0, 0⟩, 19) by simp [putL]] at hput2
  rw [show waitL ⟨1, [5], [], 0, 0⟩ 3 9 = (⟨1, [5], [(3, 9)], 0, 0⟩, 0) by simp [waitL, placeAt]] at hwait
  rw [show takeL ⟨1, [5], [(3, 9)], 0, 0⟩ = (⟨1, [9], [], 1, 0⟩, tookV 5 (3, 9) true 0) by rfl] at htake
  simp only [tookV, List.length_singleton] at hput hput2 hwait htake hlen
  have HNEW := Lib.hid hnew
  have HPUT := Lib.hid hput
  have HPUT2 := Lib.hid hput2
  have HWAIT := Lib.hid hwait
  have HTAKE := Lib.hid htake
  clear hnew hput hput2 hwait htake
  have HLEN := Lib.hid hlen
  clear hlen
  go_enter Try.func5, Try.ntmps5
  go_wp2_with fail
  refine HNEW.out.mono ?_
  rintro e w1 hw1
  rcases hw1 with ⟨-, -, rfl, hw1⟩ | ⟨h, -, -⟩
  · have HW1 := Lib.hid hw1
    clear hw1
    go_wp2_with fail
    refine (HPUT.out _ _ HW1.out).mono ?_
    rintro e w2 ⟨rfl, hw2⟩
    have HW2 := Lib.hid hw2
    clear hw2
    go_wp2_with fail
    refine (HPUT2.out _ _ HW2.out).mono ?_
    rintro e w3 ⟨rfl, hw3⟩
    have HW3 := Lib.hid hw3
    clear hw3
    go_wp2_with fail
    refine (HWAIT.out _ _ HW3.out).mono ?_
    rintro e w4 ⟨rfl, hw4⟩
    have HW4 := Lib.hid hw4
    clear hw4
    go_wp2_with fail
    refine (HTAKE.out _ _ HW4.out).mono ?_
    rintro e w5 ⟨rfl, hw5⟩
    have hw6 := hw5.new ((Kept.refl (fun _ => False) w5).alloc (.cells #[.int .i64 3, .int .i64 9] 31))
    have hb6 := Blk.made w5 31 #[.int .i64 3, .int .i64 9]
    have HW5 := Lib.hid hw5
    have HW6 := Lib.hid hw6
    clear hw5 hw6
    go_upto_region 8 with (fail)
    generalize w5.alloc (.cells #[.int .i64 3, .int .i64 9] 31) = W6 at *
    have z0 := hb6.cell 0
    have z1 := hb6.cell 1
    simp only [List.getElem?_toArray, List.getElem?_cons_zero, List.getElem?_cons_succ] at z0 z1
    have HB6 := Lib.hid hb6
    clear hb6
    go_wp2_with (refine (HLEN.out _ _ HW6.out).mono ?_; rintro e w7 ⟨rfl, rfl⟩)
    go_ret
    exact ⟨rfl, HW6.out.fresh⟩
  · exact absurd (by decide) h
end Go.Proofs.Ytnmocdgngkjflaa.Lane
