/- The contracts of package script and its reference, by rows. -/
import Derived.Test.YtgmibjhbneggeaaScriptRd
import Derived.Test.YtgmibjhbneggeaaKeep
namespace Go.Proofs.Ytgmibjhbneggeaa.Script
open Go.RowKit Go.Fb Go.BytesP Go.ScriptP Go.ReaderP
set_option linter.unusedVariables false

def encB (l : List Step) : List UInt8 := if may l = (0, 0) then enc l else []
def decL (b : List UInt8) : List Step := match dec b with | .ok l => l | .error _ => []
def decE (b : List UInt8) : Int × Int := match dec b with | .ok _ => (0, 0) | .error e => e
abbrev RowB (w : World) (r : Option Nat) (A : Option Addr) (n c : Nat) (l : List UInt8) : Prop := Row w 1 r A n c (l.map bv)
theorem own_row {w : World} {B : Nat} {v : Value} {l : List UInt8} (h : OwnB 5 w B v l) : ∃ r A c, v = .slice A l.length c ∧ RowB w r A l.length c l ∧ ∀ k, r = some k → B ≤ k := Row.of_own (by decide) h
def Encd (w w' : World) (e : Ending) (l : List Step) : Prop := ∃ r A n c, e = .returned (.tuple #[.slice A n c, .int .i64 (may l).1, .int .i64 (may l).2]) ∧ RowB w' r A n c (encB l) ∧ (∀ k, r = some k → w.heap.size ≤ k) ∧ New w w'
theorem encd_ok {w w' : World} {e : Ending} {l : List Step} (hm : may l = (0, 0)) (h : ∃ g cap, e = .returned (.tuple #[.slice (some ⟨g, 0, none⟩) (enc l).length cap, .int .i64 0, .int .i64 0]) ∧ OwnB 5 w' w.heap.size (.slice (some ⟨g, 0, none⟩) (enc l).length cap) (enc l) ∧ New w w') : Encd w w' e l := by
  obtain ⟨g, cap, rfl, ho, hw⟩ := h
  obtain ⟨r, A, c, hv, hr, hk⟩ := own_row ho
  have e1 : encB l = enc l := by unfold encB; rw [if_pos hm]
  unfold Encd
  rw [e1, hm, hv]
  exact ⟨r, A, _, c, rfl, hr, hk, hw⟩
theorem encd_err {w w' : World} {e : Ending} {l : List Step} (hm : may l ≠ (0, 0)) (h : e = .returned (.tuple #[.slice none 0 0, .int .i64 (may l).1, .int .i64 (may l).2]) ∧ New w w') : Encd w w' e l := by
  have e1 : encB l = [] := by unfold encB; rw [if_neg hm]
  unfold Encd
  rw [e1]
  exact ⟨none, none, 0, 0, h.1, Row.nil _ _, (by intro k hk; cases hk), h.2⟩
theorem encode_row (A : Option Addr) (n c : Nat) (l : List Step) (w : World) (hl : SliceOf repStep w w.heap.size A n c l) : Calls Try.prog 11 #[.slice A n c] w fun e w' => Encd w w' e l := by
  by_cases h : may l = (0, 0)
  · exact (encode_ok A n c l w hl h).mono fun e w' => encd_ok h
  · exact (encode_err A n c l w hl h).mono fun e w' => encd_err h
theorem ref_encode_row (A : Option Addr) (n c : Nat) (l : List Step) (w : World) (hl : SliceOf repStep w w.heap.size A n c l) : Calls Try.prog 12 #[.slice A n c] w fun e w' => Encd w w' e l := by
  by_cases h : may l = (0, 0)
  · exact (ref_encode_ok A n c l w hl h).mono fun e w' => encd_ok h
  · exact (ref_encode_err A n c l w hl h).mono fun e w' => encd_err h
def Decd (w w' : World) (e : Ending) (b : List UInt8) : Prop := ∃ r A c, e = .returned (.tuple #[.slice A (decL b).length c, .int .i64 (decE b).1, .int .i64 (decE b).2]) ∧ Row w' 3 r A (decL b).length c ((decL b).flatMap cellsS) ∧ (∀ k, r = some k → w.heap.size ≤ k) ∧ (∀ x ∈ decL b, Wf x) ∧ New w w'
theorem decode_row (A : Option Addr) (n c : Nat) (bs : List UInt8) (w : World) (hb : SliceOf Rep.byte w w.heap.size A n c bs) : Calls Try.prog 13 #[.slice A n c] w fun e w' => Decd w w' e bs :=
  (decode_any A n c bs w hb).mono fun e w' h => by
    unfold Decd decL decE
    cases hd : dec bs with
    | error x => rw [hd] at h; exact ⟨none, none, 0, h.1, Row.nil _ _, (by intro k hk; cases hk), (by intro x hx; cases hx), h.2⟩
    | ok l =>
      rw [hd] at h
      obtain ⟨v, rfl, hv, hw⟩ := h
      obtain ⟨r, A, c, rfl, hr, hk⟩ := Row.of_own (by decide) hv
      exact ⟨r, A, c, rfl, hr, hk, wf_dec hd, hw⟩
theorem ref_decode_row (A : Option Addr) (n c : Nat) (bs : List UInt8) (w : World) (hb : SliceOf Rep.byte w w.heap.size A n c bs) : Calls Try.prog 14 #[.slice A n c] w fun e w' => Decd w w' e bs :=
  (ref_decode A n c bs w hb).mono fun e w' h => by
    unfold Decd decL decE
    cases hd : dec bs with
    | error x => rw [hd] at h; exact ⟨none, none, 0, h.1, Row.nil _ _, (by intro k hk; cases hk), (by intro x hx; cases hx), h.2⟩
    | ok l =>
      rw [hd] at h
      obtain ⟨r, A, c, rfl, hr, hk, hwf, hw⟩ := h
      exact ⟨r, A, c, rfl, hr, hk, hwf, hw⟩
theorem rowB_len {w : World} {r : Option Nat} {A : Option Addr} {n c : Nat} {l : List UInt8} (h : RowB w r A n c l) : n = l.length := (Row.bytes h).1
theorem rowB_read {w : World} {r : Option Nat} {A : Option Addr} {n c : Nat} {l : List UInt8} (h : RowB w r A n c l) : SliceOf Rep.byte w w.heap.size A n c l := (Row.bytes h).2
theorem rowS_read {w : World} {r : Option Nat} {A : Option Addr} {c : Nat} {l : List Step} (h : Row w 3 r A l.length c (l.flatMap cellsS)) (hw : ∀ x ∈ l, Wf x) : SliceOf repStep w w.heap.size A l.length c l := h.slice (R := repStep) (by decide) rfl fun x hx => repStep_of (hw x hx)
theorem rowB_head {w : World} {r : Option Nat} {A : Option Addr} {n m c : Nat} {l t : List UInt8} (h : RowB w r A m c (l ++ t)) (hn : n = l.length) (hm : n ≤ m) : SliceOf Rep.byte w w.heap.size A n c l := by
  have := (Row.bytes h).2.take hm (by have := h.le; omega) h.max
  rwa [List.take_append_of_le_length (by omega), List.take_of_length_le (by omega)] at this
theorem rowS_head {w : World} {r : Option Nat} {A : Option Addr} {n m c : Nat} {l t : List Step} (h : Row w 3 r A m c ((l ++ t).flatMap cellsS)) (hn : n = l.length) (hm : n ≤ m) (hw : ∀ x ∈ l, Wf x) : SliceOf repStep w w.heap.size A n c l := by
  have := h.head hm
  have e : ((l ++ t).flatMap cellsS).take (n * 3) = l.flatMap cellsS := by
    rw [List.flatMap_append, List.take_append_of_le_length, List.take_of_length_le] <;> rw [flatMap_len (f := cellsS) (size := 3) l (fun x _ => rfl), hn] <;> exact Nat.le_refl _
  rw [e] at this
  exact this.slice (R := repStep) (by decide) hn.symm fun x hx => repStep_of (hw x hx)
theorem encB_len (l : List Step) : (encB l).length ≤ 13319 := by
  unfold encB
  split
  · rename_i h
    have := encTo_le l l.length (may_ok h).1
    rwa [encTo_all] at this
  · simp
theorem decL_len (b : List UInt8) : (decL b).length ≤ 1024 := by
  unfold decL
  cases h : dec b with
  | error e => simp
  | ok l => exact (may_ok (enc_dec h).1).1
theorem repStep_eq {w : World} {B : Nat} {s : Step} {cs : List Value} (h : repStep.cells w B s cs) : cs = cellsS s := (repStep_cells h).1
theorem steps_src {w : World} {B : Nat} {A : Option Addr} {n c : Nat} {l : List Step} (h : SliceOf repStep w B A n c l) : Go.Src Try.prog 3 23 (.slice A n c) n (l.flatMap cellsS) w :=
  SliceOf.src (R := repStep) (f := cellsS) repStep_eq cellsS_one Try.underlying23 h
theorem ret_slice {A : Option Addr} {a b : Nat} (h : a = b) : Ending.returned (.slice A a a) = .returned (.slice A b b) := by rw [h]
theorem short_steps (A : Option Addr) (n c : Nat) (w : World) (hn : n ≤ c) (hc : c ≤ 9223372036854775807) : Calls Try.prog 16 #[.slice A n c] w fun e w' => e = .returned (.slice A (min n 1048576) (min n 1048576)) ∧ w = w' := by
  go_enter Try.func16, Try.ntmps16
  go_wp2
  all_goals
    go_ret
    exact ⟨ret_slice (by omega), rfl⟩
theorem short_byte (A : Option Addr) (n c : Nat) (w : World) (hn : n ≤ c) (hc : c ≤ 9223372036854775807) : Calls Try.prog 17 #[.slice A n c] w fun e w' => e = .returned (.slice A (min n 1048576) (min n 1048576)) ∧ w = w' := by
  go_enter Try.func17, Try.ntmps17
  go_wp2
  all_goals
    go_ret
    exact ⟨ret_slice (by omega), rfl⟩
theorem short_of {α : Type} {R : Rep α} {w : World} {B n c : Nat} {A : Option Addr} {l : List α} (h : SliceOf R w B A n c l) : SliceOf R w B A (min n 1048576) (min n 1048576) (l.take (min n 1048576)) :=
  h.take (Nat.min_le_left _ _) (Nat.le_refl _) (by have := h.bound; unfold maxLen; omega)
end Go.Proofs.Ytgmibjhbneggeaa.Script
