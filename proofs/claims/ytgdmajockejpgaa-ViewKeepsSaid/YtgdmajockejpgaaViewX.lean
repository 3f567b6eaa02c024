/- Plain laws of what is seen (layer 18). -/
import Derived.Test.YtgdmajockejpgaaViewT
namespace Go.Proofs.Ytgdmajockejpgaa.View
open Go.RowKit Go.Fb
set_option linter.unusedVariables false
section
variable {α : Type} {z : α} {l : List α} {is js : Nat → Bool}
theorem upTo_upTo : upTo z (upTo z l is l.length) js (upTo z l is l.length).length = upTo z l (fun j => is j && js j) l.length := by
  refine List.ext_getElem (by simp [upTo]) fun j h1 h2 => ?_
  have hj : j < l.length := by simpa [upTo] using h2
  have hu : (upTo z l is l.length).getD j z = if is j = true then l.getD j z else z := by
    rw [getD_at _ _ _ (by rw [upTo_len]; exact hj)]
    simp only [upTo, List.getElem_map, List.getElem_range, hj, true_and]
  show ((List.range (upTo z l is l.length).length).map fun j => if j < (upTo z l is l.length).length ∧ js j = true then (upTo z l is l.length).getD j z else z)[j]'(by simpa [upTo] using h1) = ((List.range l.length).map fun j => if j < l.length ∧ (is j && js j) = true then l.getD j z else z)[j]'(by simpa [upTo] using h2)
  simp only [List.getElem_map, List.getElem_range, hu, upTo_len, hj, true_and, Bool.and_eq_true]
  by_cases c : js j = true <;> by_cases d : is j = true <;> simp [c, d]
theorem upTo_ext (h : ∀ j, is j = js j) : upTo z l is l.length = upTo z l js l.length := by
  have : is = js := funext h
  rw [this]
theorem upTo_mem {x : α} (h : x ∈ upTo z l is l.length) : x = z ∨ x ∈ l := by
  obtain ⟨j, hj, rfl⟩ := List.mem_map.1 h
  split
  · rename_i hc
    right
    rw [getD_at _ _ _ hc.1]
    exact List.getElem_mem _
  · exact .inl rfl
end
def Less (a' a : Int) : Prop := ∀ x, flB x a' = true → flB x a = true
theorem Less.part {a' a : Int} (h : Less a' a) (l : List Int) (i : Int) (hp : partB l i a' = true) : partB l i a = true := by
  unfold partB at hp ⊢
  split
  · rename_i hc; rw [if_pos hc] at hp; exact h _ hp
  · rename_i hc; rw [if_neg hc] at hp; exact hp
theorem Less.sees {a' a : Int} (h : Less a' a) (c : Config) (p : Int) (hp : seesB c p a' = true) : seesB c p a = true := by
  unfold seesB at hp ⊢
  split
  · rename_i hc; rw [if_pos hc] at hp; exact h.part _ _ hp
  · rename_i hc; rw [if_neg hc] at hp; exact hp
theorem Less.refl (a : Int) : Less a a := fun _ h => h
theorem less_and (a b : Int) : Less (bits BinOp.and IntKind.u64 a b) a := by
  intro x h
  have e : BitVec.ofInt 64 (bits BinOp.and IntKind.u64 a b) = BitVec.ofInt 64 a &&& BitVec.ofInt 64 b := by
    show BitVec.ofInt 64 (IntKind.u64.wrap ((BitVec.ofInt 64 a &&& BitVec.ofInt 64 b).toNat : Int)) = _
    rw [toNat_u64, BitVec.ofInt_natCast, BitVec.ofNat_toNat, BitVec.setWidth_eq]
  rw [flB_bits] at h ⊢
  intro n hn hx
  have := h n hn hx
  unfold hasB at this ⊢
  rw [e, BitVec.getLsbD_and] at this
  simp only [Bool.and_eq_true] at this
  exact this.1
theorem ofS_less {c : Config} {s : State} {a' a : Int} (h : Less a' a) : ofS c (ofS c s a) a' = ofS c s a' := by
  unfold ofS
  dsimp only
  rw [upTo_upTo, upTo_upTo, upTo_ext (js := fun j => partB c.labels j a'), upTo_ext (l := s.procs) (js := fun j => seesB c j a')]
  · intro j
    cases hp : seesB c j a' with
    | false => simp
    | true => rw [h.sees c j hp]; rfl
  · intro j
    cases hp : partB c.labels j a' with
    | false => simp
    | true => rw [h.part _ j hp]; rfl
theorem ofS_more {c : Config} {s : State} {a' a : Int} (h : Less a' a) : ofS c (ofS c s a') a = ofS c s a' := by
  unfold ofS
  dsimp only
  rw [upTo_upTo, upTo_upTo, upTo_ext (js := fun j => partB c.labels j a'), upTo_ext (l := s.procs) (js := fun j => seesB c j a')]
  · intro j
    cases hp : seesB c j a' with
    | false => rfl
    | true => rw [h.sees c j hp]; rfl
  · intro j
    cases hp : partB c.labels j a' with
    | false => rfl
    | true => rw [h.part _ j hp]; rfl
theorem Few.of {c : Config} {s : State} (h : Few s) (a : Int) : Few (ofS c s a) := by
  refine ⟨?_, ?_, ?_, ?_⟩
  · show (upTo _ _ _ _).length ≤ _; rw [upTo_len]; exact h.parts
  · intro x hx
    rcases upTo_mem hx with rfl | hx
    · exact ⟨Nat.zero_le _, Nat.zero_le _, Nat.zero_le _, fun q hq => by cases hq⟩
    · exact h.inner x hx
  · show (upTo _ _ _ _).length ≤ _; rw [upTo_len]; exact h.procs
  · intro x hx
    rcases upTo_mem hx with rfl | hx
    · exact ⟨Nat.zero_le _, fun q hq => by cases hq⟩
    · exact h.lanes x hx
end Go.Proofs.Ytgdmajockejpgaa.View
