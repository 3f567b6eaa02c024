/- A lane of one's own (layer 9). -/
import Derived.Test.YtnfaafdgfafcjaaLaneU
namespace Go.Proofs.Ytnfaafdgfafcjaa.Lane
open Go.RowKit Go.Fb
set_option linter.unusedVariables false
/-- A lane that has been made since w, and nothing of w has turned. -/
def Own (w wr : World) (b : Nat) (L : Lane) : Prop := ∃ F, At wr b F L ∧ (∀ k, F k → w.heap.size ≤ k) ∧ New w wr
theorem Own.new {w wr w' : World} {b : Nat} {L : Lane} (h : Own w wr b L) (hk : New wr w') : Own w w' b L := by
  obtain ⟨F, h1, h2, h3⟩ := h
  exact ⟨F, h1.new hk, h2, h3.trans hk⟩
theorem Own.fresh {w wr : World} {b : Nat} {L : Lane} (h : Own w wr b L) : New w wr := h.elim fun _ h => h.2.2
theorem Ends.own {w w1 w' : World} {b : Nat} {F : Nat → Prop} {L : Lane} {v : Value} {e : Ending} (h : Ends w1 b F L v e w') (hF : ∀ k, F k → w.heap.size ≤ k) (hn : New w w1) : e = .returned v ∧ Own w w' b L := by
  obtain ⟨h1, h2, h3⟩ := h
  refine ⟨h1, grow F w1 w', h2, fun k hk => ?_, hn.step h3 fun k hk e => absurd (hF k e) (Nat.not_le.2 hk)⟩
  rcases hk.1 with e | e
  · exact hF k e
  · exact Nat.le_trans hn.size e
section
variable {w w1 : World} {b : Nat} {L : Lane}
theorem put_own (h : Own w w1 b L) (v : Int) (hlen : L.vals.length ≤ 1048576) : Calls Try.prog 22 #[.pointer (some ⟨b, 0, none⟩), .int .i64 v] w1 fun e w' => e = .returned (.int .i64 (putL L v).2) ∧ Own w w' b (putL L v).1 := by
  obtain ⟨F, h1, h2, h3⟩ := h
  exact (put_any h1 v hlen).mono fun e w' he => he.own h2 h3
theorem wait_own (h : Own w w1 b L) (p v : Int) (hlen : L.waits.length ≤ 8000000000000) : Calls Try.prog 56 #[.pointer (some ⟨b, 0, none⟩), .int .i64 p, .int .i64 v] w1 fun e w' => e = .returned (.int .i64 (waitL L p v).2) ∧ Own w w' b (waitL L p v).1 := by
  obtain ⟨F, h1, h2, h3⟩ := h
  exact (wait_any h1 p v hlen).mono fun e w' he => he.own h2 h3
def takeL (L : Lane) : Lane × Value := match L.vals, L.waits with
  | [], _ => (L, tookV 0 (0, 0) false 21)
  | v :: rest, [] => ({ L with vals := rest, taken := min (L.taken + 1) 65535 }, tookV v (0, 0) false 0)
  | v :: rest, q :: ws => ({ L with vals := rest ++ [q.2], waits := ws, taken := min (L.taken + 1) 65535 }, tookV v q true 0)
theorem take_own (h : Own w w1 b L) (hlen : L.vals.length ≤ 1048576) (ht : 0 ≤ L.taken ∧ L.taken ≤ 65535) : Calls Try.prog 25 #[.pointer (some ⟨b, 0, none⟩)] w1 fun e w' => e = .returned (takeL L).2 ∧ Own w w' b (takeL L).1 := by
  obtain ⟨F, h1, h2, h3⟩ := h
  unfold takeL
  split
  · rename_i hv
    exact (take_none h1 hv).mono fun e w' he => he.own h2 h3
  · rename_i v rest hv hw
    exact (take_plain h1 v rest hv hw ht).mono fun e w' he => he.own h2 h3
  · rename_i v rest q ws hv hw
    exact (take_in h1 v rest hv q ws hw hlen ht).mono fun e w' he => he.own h2 h3
theorem len_own (h : Own w w1 b L) : Calls Try.prog 24 #[.pointer (some ⟨b, 0, none⟩)] w1 fun e w' => e = .returned (.int .i64 L.vals.length) ∧ w1 = w' := by
  obtain ⟨F, h1, h2, h3⟩ := h
  exact len_any h1
end
theorem new_own (w w0 : World) (hn : New w w0) (room : Int) : Calls Try.prog 41 #[.int .i64 room] w0 fun e w' =>
    ((1 ≤ room ∧ room ≤ 64 ∧ e = .returned (.tuple #[.pointer (some ⟨w0.heap.size, 0, none⟩), .int .i64 0]) ∧ Own w w' w0.heap.size (empty room)) ∨ (¬ (1 ≤ room ∧ room ≤ 64) ∧ e = .returned (.tuple #[.pointer none, .int .i64 1]) ∧ New w w')) := by
  refine (new_any room w0).mono fun e w' ⟨h0, h⟩ => ?_
  rcases h with ⟨h1, h2, h3, h4⟩ | ⟨h1, h2⟩
  · exact .inl ⟨h1, h2, h3, _, h4, (by rintro k rfl; exact hn.size), hn.trans h0⟩
  · exact .inr ⟨h1, h2, hn.trans h0⟩
end Go.Proofs.Ytnfaafdgfafcjaa.Lane
