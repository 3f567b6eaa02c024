/- The numbers of firebreaklaw09's LaneOrder, plainly (layer 9). -/
import Derived.Test.YtnmocdgngkjflaaLaneO
namespace Go.Proofs.Ytnmocdgngkjflaa.Lane
open Go.RowKit Go.Fb
set_option linter.unusedVariables false
/-- T taken, D that stand in the lane, E that wait. -/
def laneOf (R : Int) (T D E : Nat) (C : Int) : Lane := ⟨R, (List.range' T D).map (fun (k : Nat) => (k : Int)), (List.range' (T + D) E).map (fun (k : Nat) => ((k : Int), (k : Int))), C, 0⟩
theorem laneOf_len (R : Int) (T D E : Nat) (C : Int) : (laneOf R T D E C).vals.length = D := by simp [laneOf]
theorem laneOf_waits (R : Int) (T D E : Nat) (C : Int) : (laneOf R T D E C).waits.length = E := by simp [laneOf]
theorem put_full {R : Int} {T D E : Nat} {C v : Int} (h : R ≤ (D : Int)) : putL (laneOf R T D E C) v = (laneOf R T D E C, 19) := by
  unfold putL
  rw [laneOf_len]
  exact if_pos h
theorem put_room {R : Int} {T D : Nat} {C : Int} (h : (D : Int) < R) : putL (laneOf R T D 0 C) ((T + D : Nat) : Int) = (laneOf R T (D + 1) 0 C, 0) := by
  unfold putL
  rw [laneOf_len, if_neg (show ¬ (laneOf R T D 0 C).room ≤ (D : Int) by show ¬ R ≤ _; omega)]
  simp [laneOf, List.range'_1_concat]
theorem wait_full {R : Int} {T D E : Nat} {C : Int} (h : R ≤ (D : Int)) : waitL (laneOf R T D E C) ((T + D + E : Nat) : Int) ((T + D + E : Nat) : Int) = (laneOf R T D (E + 1) C, 0) := by
  have hp : placeAt ((T + D + E : Nat) : Int) (laneOf R T D E C).waits = -1 := place_miss fun j hj => by
    rw [laneOf_waits] at hj
    simp [laneOf]
    omega
  unfold waitL
  rw [laneOf_len, hp, if_neg (show ¬ ¬ (laneOf R T D E C).room ≤ (D : Int) from fun k => k h), if_neg (by decide)]
  simp [laneOf, List.range'_1_concat, Nat.add_assoc]
theorem take_0 {R : Int} {T E : Nat} {C : Int} : takeL (laneOf R T 0 E C) = (laneOf R T 0 E C, tookV 0 (0, 0) false 21) := rfl
theorem take_1 {R : Int} {T D : Nat} {C : Int} : takeL (laneOf R T (D + 1) 0 C) = (laneOf R (T + 1) D 0 (min (C + 1) 65535), tookV T (0, 0) false 0) := by
  simp [takeL, laneOf, List.range'_succ]
theorem take_2 {R : Int} {T D E : Nat} {C : Int} : takeL (laneOf R T (D + 1) (E + 1) C) = (laneOf R (T + 1) (D + 1) E (min (C + 1) 65535), tookV T (((T + D + 1 : Nat) : Int), ((T + D + 1 : Nat) : Int)) true 0) := by
  have e1 : T + (D + 1) = T + D + 1 := by omega
  have e2 : T + 1 + (D + 1) = T + D + 1 + 1 := by omega
  have e3 : T + 1 + D = T + D + 1 := by omega
  rw [show laneOf R T (D + 1) (E + 1) C = ⟨R, (T : Int) :: (List.range' (T + 1) D).map (fun (k : Nat) => (k : Int)), (((T + D + 1 : Nat) : Int), ((T + D + 1 : Nat) : Int)) :: (List.range' (T + D + 1 + 1) E).map (fun (k : Nat) => ((k : Int), (k : Int))), C, 0⟩ by
    unfold laneOf; rw [e1, List.range'_succ, List.range'_succ]; rfl]
  unfold laneOf
  rw [List.range'_1_concat, e2, e3]
  simp [takeL]
/-- What is true of the numbers at the head of a round. -/
structure Ok (R : Int) (T D E i : Nat) (C : Int) : Prop where
  c0 : 0 ≤ C
  c1 : C ≤ 65535
  le : (D : Int) ≤ R
  full : 0 < E → (D : Int) = R
  room : 1 ≤ R ∧ R ≤ 64
  nx : T + D + E ≤ i
theorem bool_at {w : World} {B : Nat} {A : Option Addr} {n c : Nat} {l : List Bool} (h : SliceOf Rep.bool w B A n c l) (hn : 0 < n) :
    ∃ b o, A = some ⟨b, o, none⟩ ∧ b < B ∧ ∀ i (h : i < l.length), w.cell? ⟨b, o + i, none⟩ = some (.bool l[i]) := by
  obtain ⟨b, o, e, hb, hc⟩ := h.get hn
  refine ⟨b, o, e, hb, fun i hi => ?_⟩
  obtain ⟨es, g1, g2⟩ := hc i hi
  have := g1 0 (Nat.zero_lt_one)
  rw [g2] at this
  simpa [Rep.bool] using this
theorem end_own {w w1 : World} {b : Nat} {L : Lane} (h : Own w w1 b L) : Calls Try.prog 11 #[.pointer (some ⟨b, 0, none⟩)] w1 fun e w' => ∃ A, e = .returned (.slice A L.waits.length L.waits.length) ∧ New w w' := by
  obtain ⟨F, h1, h2, h3⟩ := h
  exact (end_any h1).mono fun e w' ⟨r, A, F', he, _, _, _, _, hk⟩ => ⟨A, he, h3.step hk fun k hk e => absurd (h2 k e) (Nat.not_le.2 hk)⟩
end Go.Proofs.Ytnmocdgngkjflaa.Lane
