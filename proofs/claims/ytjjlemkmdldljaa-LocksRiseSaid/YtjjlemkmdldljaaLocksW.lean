/- How locks lie, and the walks of package locks' wrong, Waits, of slices.Index, Contains (layer 12). -/
import Derived.Test.YtjjlemkmdldljaaOwn
import Derived.Test.YtjjlemkmdldljaaKeep
import Derived.Test.YtjjlemkmdldljaaProg
import Derived.Deep.QuietTactic
import Derived.BigQuiet
import Derived.IntWalk
import Derived.WalkSpells
import Derived.Deep.LoopGhost
import Derived.Deep.Cut
import Derived.Outline
namespace Go.Proofs.Ytjjlemkmdldljaa.Locks
open Go.RowKit Go.Fb
set_option linter.unusedVariables false
theorem index_any {w : World} {r : Option Nat} {A : Option Addr} {n c : Nat} {q : List Int} (h : Row w 1 r A n c (q.map (Value.int .i64))) (hq : n = q.length) (p : Int) : Calls Try.prog 26 #[.slice A n c, .int .i64 p] w fun e w' => e = .returned (.int .i64 (if p ∈ q then (q.findIdx (· == p) : Nat) else -1)) ∧ w = w' := by
  have hb := h.bound
  have R := Lib.hid (show ∀ j, j < n → ∃ g o, A = some ⟨g, o, none⟩ ∧ w.cell? ⟨g, o + j, none⟩ = some (.int .i64 (q.getD j 0)) from fun j hj => by
    obtain ⟨g, o, _, e, h5, _⟩ := h.at_pos (by omega)
    refine ⟨g, o, e, ?_⟩
    rw [h5 j (by omega), List.getElem?_map, List.getElem?_eq_getElem (by omega)]
    simp [List.getD_eq_getElem?_getD, List.getElem?_eq_getElem (show j < q.length by omega)])
  have hg : ∀ j (hj : j < q.length), q.getD j 0 = q[j] := fun j hj => by simp [List.getD_eq_getElem?_getD, List.getElem?_eq_getElem hj]
  have H1 := Lib.hid (show ∀ j, j < n → (∀ i, i < j → q.getD i 0 ≠ p) → q.getD j 0 = p → (if p ∈ q then ((q.findIdx (· == p) : Nat) : Int) else -1) = j from fun j hj h1 h2 => by
    have hjq : j < q.length := by omega
    rw [hg j hjq] at h2
    have hf : q.findIdx (· == p) = j := (List.findIdx_eq hjq).2 ⟨by simpa using h2, fun i hi => by
      have := h1 i hi
      rw [hg i (by omega)] at this
      simpa using this⟩
    rw [if_pos (h2 ▸ List.getElem_mem hjq), hf])
  have H2 := Lib.hid (show (∀ i, i < n → q.getD i 0 ≠ p) → (if p ∈ q then ((q.findIdx (· == p) : Nat) : Int) else -1) = -1 from fun h1 => if_neg fun h2 => by
    obtain ⟨j, hj, e⟩ := List.mem_iff_getElem.1 h2
    exact h1 j (by omega) (by rw [hg j hj]; exact e))
  generalize (if p ∈ q then ((q.findIdx (· == p) : Nat) : Int) else -1) = res at *
  have H := Lib.hid h
  clear h
  clear hq hg
  generalize (fun j => q.getD j 0) = f at *
  go_enter Try.func26, Try.ntmps26
  go_wp2
  go_loop [8] (fun i => ∃ j : Nat, j ≤ n ∧ i = .int .i64 j ∧ Hid (∀ i, i < j → q.getD i 0 ≠ p)) (fun i => (n - intOf i).toNat)
  case atStart => exact ⟨0, Nat.zero_le _, rfl, Lib.hid fun i hi => absurd hi (Nat.not_lt_zero _)⟩
  case round =>
    obtain ⟨j, hj, rfl, D⟩ := hrel
    by_cases hlt : j < n
    · obtain ⟨g, o, rfl, hcell⟩ := R.out j hlt
      by_cases he : q.getD j 0 = p
      · have E := Lib.hid (H1.out j hlt D.out he)
        rw [he] at hcell
        clear he
        go_wp2
        go_ret
        exact ⟨by rw [E.out]; rfl, rfl⟩
      · have A2 := Lib.hid (show ∀ i, i < j + 1 → q.getD i 0 ≠ p from fun i hi => by
          by_cases e : i = j
          · subst e; exact he
          · exact D.out i (by omega))
        generalize q.getD j 0 = v at *
        have he2 : (p == v) = false := by simpa using fun h => he h.symm
        go_wp2
        go_round
        case rel => exact ⟨j + 1, by omega, by go_num, A2⟩
        case measure => simp [intOf]; omega
    · obtain rfl : j = n := by omega
      have E := Lib.hid (H2.out D.out)
      go_wp2
      go_ret
      exact ⟨by rw [E.out]; rfl, rfl⟩
theorem contains_any {w : World} {r : Option Nat} {A : Option Addr} {n c : Nat} {q : List Int} (h : Row w 1 r A n c (q.map (Value.int .i64))) (hq : n = q.length) (p : Int) : Calls Try.prog 34 #[.slice A n c, .int .i64 p] w fun e w' => e = .returned (.bool (decide (p ∈ q))) ∧ w = w' := by
  have hi := index_any h hq p
  by_cases hm : p ∈ q
  · rw [if_pos hm] at hi
    rw [decide_eq_true hm]
    have b1 : 0 ≤ ((q.findIdx (· == p) : Nat) : Int) := by omega
    generalize ((q.findIdx (· == p) : Nat) : Int) = x at *
    have H := Lib.hid h
    have HM := Lib.hid hm
    have HI := Lib.hid hi
    clear h hm hi
    clear hq
    go_enter Try.func34, Try.ntmps34
    go_wp2_with fail
    refine HI.out.mono ?_
    rintro e w' ⟨rfl, rfl⟩
    go_wp2_with fail
    go_ret
    exact ⟨rfl, rfl⟩
  · rw [if_neg hm] at hi
    rw [decide_eq_false hm]
    have H := Lib.hid h
    have HM := Lib.hid hm
    have HI := Lib.hid hi
    clear h hm hi
    clear hq
    go_enter Try.func34, Try.ntmps34
    go_wp2_with fail
    refine HI.out.mono ?_
    rintro e w' ⟨rfl, rfl⟩
    go_wp2_with fail
    go_ret
    exact ⟨rfl, rfl⟩
end Go.Proofs.Ytjjlemkmdldljaa.Locks
