/- The walk of package script's Encode (layer 16) where the script may not be. -/
import Derived.Test.YtgmibjhbneggeaaScriptA
import Derived.Laws.IdiomStrings
import Derived.Lib.BufferRead
namespace Go.Proofs.Ytgmibjhbneggeaa.Script
open Go.RowKit Go.Fb Go.BytesP Go.ScriptP
set_option linter.unusedVariables false

theorem mayFrom_zero : ∀ (l : List Step) (i : Nat), (mayFrom i l).1 = 0 → mayFrom i l = (0, 0)
  | [], _, _ => rfl
  | s :: l, i, h => by
    simp only [mayFrom] at h ⊢
    split
    · rename_i h0; rw [if_pos h0] at h; exact mayFrom_zero l (i + 1) h
    · rename_i h0; rw [if_neg h0] at h; exact absurd h h0
theorem may_zero {l : List Step} (h : (may l).1 = 0) : may l = (0, 0) := by
  unfold may at h ⊢
  split
  · rename_i h0; rw [if_pos h0] at h; simp at h
  · rename_i h0; rw [if_neg h0] at h; exact mayFrom_zero l 0 h
theorem encode_err (A : Option Addr) (n c : Nat) (l : List Step) (w : World) (hl : SliceOf repStep w w.heap.size A n c l) (hm : may l ≠ (0, 0)) :
    Calls Try.prog 11 #[.slice A n c] w fun e w' => e = .returned (.tuple #[.slice none 0 0, .int .i64 (may l).1, .int .i64 (may l).2]) ∧ New w w' := by
  have hm1 : ((may l).1 != 0) = true := by
    simp only [bne_iff_ne, ne_eq]
    exact fun h => hm (may_zero h)
  generalize hE : may l = m at *
  have HL := Lib.hid hl
  have HE := Lib.hid hE
  clear hl hm hE
  go_enter Try.func11, Try.ntmps11
  go_wp2_with fail
  refine (may_walk A n c l w HL.out).mono ?_; rintro e w1 ⟨rfl, hw1⟩
  rw [HE.out]
  go_wp2_with fail
  refine bodyPost_ret (results_tmp3 rfl _ _ _) rfl ?_
  exact ⟨rfl, hw1⟩
/-- Bytes, as a string. -/
theorem str_of {P : Program} {w : World} {B : Nat} {A : Option Addr} {n c : Nat} {l : List UInt8} (h : SliceOf Rep.byte w B A n c l) (src dst e : TypeId) (hs : P.underlying src = some (.slice e)) (he : P.underlying e = some (.int .u8)) (hd : P.underlying dst = some .string) :
    (convert src dst (.slice A n c)).run P w = .ok (.string ⟨l.toArray⟩) w := by
  have hn := h.len
  by_cases h0 : 0 < n
  · obtain ⟨b, o, rfl, _, hc⟩ := h.bytes h0
    subst hn
    exact run_convert_bytes_back w src dst e _ c l hs he hd fun j hj => by rw [add_eq]; exact hc j hj
  · obtain rfl : l = [] := List.eq_nil_of_length_eq_zero (by omega)
    obtain rfl : n = 0 := by omega
    cases A with
    | none => exact Lib.run_convert_nil_bytes w src dst e c hs he hd
    | some a => exact run_convert_bytes_back w src dst e a c [] hs he hd fun j hj => absurd hj (by simp)
end Go.Proofs.Ytgmibjhbneggeaa.Script
