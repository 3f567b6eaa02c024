/- The walks of conf's within, many, ranged, of table.May and of the reference's (layer 14). -/
import Derived.Test.YtaefgljpdpigeaaCodeM
import Derived.Deep.QuietTactic
import Derived.BigQuiet
namespace Go.Proofs.Ytaefgljpdpigeaa.Conf
open Go.RowKit Go.Fb
set_option linter.unusedVariables false
/-- What is wrong with a label, by the one ahead of it. -/
def riseE (l : List Int) (i : Nat) : Int := if l.getD i 0 = l.getD (i - 1) 0 then 8 else if l.getD i 0 < l.getD (i - 1) 0 then 7 else 0
/-- What is wrong with labels, and where. -/
def labE (l : List Int) : Int × Int :=
  if l.length = 0 then (1, 0) else if 8 < l.length then (3, 8) else match (List.range l.length).find? (fun i => decide (1 ≤ i ∧ riseE l i ≠ 0)) with
    | some i => (riseE l i, (i : Int))
    | none => (0, 0)
theorem labE_at {l : List Int} {i : Nat} (h0 : l.length ≠ 0) (h8 : l.length ≤ 8) (hi : i < l.length) (h1 : 1 ≤ i) (hn : ∀ j, 1 ≤ j → j < i → riseE l j = 0) (he : riseE l i ≠ 0) : labE l = (riseE l i, (i : Int)) := by
  unfold labE
  rw [if_neg h0, if_neg (by omega)]
  have : (List.range l.length).find? (fun i => decide (1 ≤ i ∧ riseE l i ≠ 0)) = some i := by
    rw [List.find?_range_eq_some]
    exact ⟨decide_eq_true ⟨h1, he⟩, List.mem_range.2 hi, fun j hj => by
      have : decide (1 ≤ j ∧ riseE l j ≠ 0) = false := decide_eq_false fun h => h.2 (hn j h.1 hj)
      rw [this]; rfl⟩
  rw [this]
theorem labE_ok {l : List Int} (h0 : l.length ≠ 0) (h8 : l.length ≤ 8) (hn : ∀ j, 1 ≤ j → j < l.length → riseE l j = 0) : labE l = (0, 0) := by
  unfold labE
  rw [if_neg h0, if_neg (by omega)]
  have : (List.range l.length).find? (fun i => decide (1 ≤ i ∧ riseE l i ≠ 0)) = none := by
    rw [List.find?_eq_none]
    intro j hj
    have := List.mem_range.1 hj
    exact fun h => (of_decide_eq_true h).2 (hn j (of_decide_eq_true h).1 this)
  rw [this]
def withinB (n a b : Int) : Bool := decide (a ≤ n ∧ n ≤ b)
theorem within_any (n a b : Int) (w : World) : Calls Try.prog 44 #[.int .i64 n, .int .i64 a, .int .i64 b] w fun e w' => e = .returned (.bool (withinB n a b)) ∧ w = w' := by
  have hcs : (n < a ∧ withinB n a b = false) ∨ (a ≤ n ∧ n ≤ b ∧ withinB n a b = true) ∨ (a ≤ n ∧ b < n ∧ withinB n a b = false) := by
    unfold withinB
    by_cases h1 : n < a
    · exact .inl ⟨h1, decide_eq_false (fun h => by omega)⟩
    · by_cases h2 : n ≤ b
      · exact .inr (.inl ⟨by omega, h2, decide_eq_true ⟨by omega, h2⟩⟩)
      · exact .inr (.inr ⟨by omega, by omega, decide_eq_false (fun h => by omega)⟩)
  generalize withinB n a b = res at *
  rcases hcs with ⟨a1, rfl⟩ | ⟨a1, b1, rfl⟩ | ⟨a1, b1, rfl⟩
  all_goals
    go_enter Try.func44, Try.ntmps44
    go_wp2_with fail
    go_ret
    exact ⟨by simp [Array.getD] <;> omega, rfl⟩
def manyE (n most : Int) : Int := if n = 0 then 1 else if most < n then 3 else 0
theorem many_any (n most : Int) (w : World) : Calls Try.prog 41 #[.int .i64 n, .int .i64 most] w fun e w' => e = .returned (.int .i64 (manyE n most)) ∧ w = w' := by
  unfold manyE
  by_cases h1 : n = 0
  · subst h1
    go_enter Try.func41, Try.ntmps41
    go_wp2_with fail
    go_ret
    exact ⟨by simp [Array.getD], rfl⟩
  · have g1 : (n == 0) = false := by simpa using h1
    by_cases h2 : most < n
    · go_enter Try.func41, Try.ntmps41
      go_wp2_with fail
      go_ret
      exact ⟨by simp_all [Array.getD], rfl⟩
    · have h2' : n ≤ most := by omega
      go_enter Try.func41, Try.ntmps41
      go_wp2_with fail
      go_ret
      exact ⟨by simp_all [Array.getD], rfl⟩
def rangedE (part n : Int) : Int := if (if part = 2 then withinB n 1 256 else if part = 3 then withinB n 1 64 else if part = 4 then withinB n 0 8 else if part = 5 then withinB n 0 4096 else true) then 0 else 2
theorem ranged_any (part n : Int) (w : World) : Calls Try.prog 43 #[.int .i64 part, .int .i64 n] w fun e w' => e = .returned (.int .i64 (rangedE part n)) ∧ w = w' := by
  have HW := Lib.hid (fun a b => within_any n a b w)
  unfold rangedE
  by_cases h2 : part = 2
  · subst h2
    rw [if_pos rfl]
    have h := HW.out 1 256
    generalize withinB n 1 256 = res at *
    cases res
    all_goals
      go_enter Try.func43, Try.ntmps43
      go_wp2_with (refine h.mono ?_; rintro e w' ⟨rfl, rfl⟩)
      go_ret
      exact ⟨by simp [Array.getD], rfl⟩
  rw [if_neg h2]
  have g2 : (part == 2) = false := by simpa using h2
  by_cases h3 : part = 3
  · subst h3
    rw [if_pos rfl]
    have h := HW.out 1 64
    generalize withinB n 1 64 = res at *
    cases res
    all_goals
      go_enter Try.func43, Try.ntmps43
      go_wp2_with (refine h.mono ?_; rintro e w' ⟨rfl, rfl⟩)
      go_ret
      exact ⟨by simp [Array.getD], rfl⟩
  rw [if_neg h3]
  have g3 : (part == 3) = false := by simpa using h3
  by_cases h4 : part = 4
  · subst h4
    rw [if_pos rfl]
    have h := HW.out 0 8
    generalize withinB n 0 8 = res at *
    cases res
    all_goals
      go_enter Try.func43, Try.ntmps43
      go_wp2_with (refine h.mono ?_; rintro e w' ⟨rfl, rfl⟩)
      go_ret
      exact ⟨by simp [Array.getD], rfl⟩
  rw [if_neg h4]
  have g4 : (part == 4) = false := by simpa using h4
  by_cases h5 : part = 5
  · subst h5
    rw [if_pos rfl]
    have h := HW.out 0 4096
    generalize withinB n 0 4096 = res at *
    cases res
    all_goals
      go_enter Try.func43, Try.ntmps43
      go_wp2_with (refine h.mono ?_; rintro e w' ⟨rfl, rfl⟩)
      go_ret
      exact ⟨by simp [Array.getD], rfl⟩
  rw [if_neg h5]
  have g5 : (part == 5) = false := by simpa using h5
  clear h2 h3 h4 h5
  go_enter Try.func43, Try.ntmps43
  go_wp2_with fail
  go_ret
  exact ⟨by simp [Array.getD], rfl⟩
section
variable {w : World} {B : Nat} {A : Option Addr} {n c : Nat} {l : List Int}
set_option maxHeartbeats 2000000 in
theorem table_any (hl : SliceOf (Rep.int .u64) w B A n c l) (hB : B ≤ w.heap.size) : Calls Try.prog 40 #[.slice A n c] w fun e w' => e = .returned (.tuple #[.int .i64 (labE l).1, .int .i64 (labE l).2]) ∧ New w w' := by
  have hb := hl.bound
  have hln := hl.len
  have HL := Lib.hid (fun W (hW : New w W) => (hl.kept hW hB fun _ _ h => h))
  by_cases h0 : n = 0
  · have E : labE l = (1, 0) := by unfold labE; rw [if_pos (by omega)]
    rw [E]
    subst h0
    clear hl hln
    go_enter Try.func40, Try.ntmps40
    go_wp2_with fail
    go_ret2
    exact ⟨by simp [Array.getD], Kept.refl _ _⟩
  by_cases h8 : 8 < n
  · have E : labE l = (3, 8) := by unfold labE; rw [if_neg (by omega), if_pos (by omega)]
    rw [E]
    clear hl hln
    go_enter Try.func40, Try.ntmps40
    go_wp2_with fail
    go_ret2
    exact ⟨by simp [Array.getD], Kept.refl _ _⟩
  have hn0 : ((n : Int) == 0) = false := by simpa using h0
  have hn8 : decide (8 < (n : Int)) = false := decide_eq_false (by omega)
  have HAT := Lib.hid (fun i h1 h2 h3 h4 => labE_at (l := l) (i := i) (by omega) (by omega) h1 h2 h3 h4)
  have HOK := Lib.hid (fun h => labE_ok (l := l) (by omega) (by omega) h)
  have HLN := Lib.hid hln
  clear hln
  clear hl
  go_enter Try.func40, Try.ntmps40
  go_wp2_with fail
  go_loopw [4] (fun s wr => ∃ i : Nat, 1 ≤ i ∧ i ≤ n ∧ s = .int .i64 i ∧ New w wr ∧ Hid (∀ j, 1 ≤ j → j < i → riseE l j = 0)) (fun s _ => (n - intOf s).toNat)
  case atStart => exact ⟨1, Nat.le_refl _, by omega, rfl, Kept.refl _ _, Lib.hid fun j h1 h2 => by omega⟩
  case round =>
    obtain ⟨i, hi1, hi, rfl, hnr, hno⟩ := hrel
    by_cases hlt : i < n
    · obtain ⟨g, o, rfl, -, hc⟩ := (HL.out wr hnr).ints (by omega)
      have hil : i < l.length := by rw [← HLN.out]; exact hlt
      have hil1 : i - 1 < l.length := by omega
      have x0 := hc i hil
      have x1 := hc (i - 1) hil1
      have hre : riseE l i = if l[i] = l[i - 1] then 8 else if l[i] < l[i - 1] then 7 else 0 := by
        unfold riseE
        rw [List.getD_eq_getElem?_getD, List.getElem?_eq_getElem hil, List.getD_eq_getElem?_getD, List.getElem?_eq_getElem hil1]
        rfl
      obtain ⟨j, rfl⟩ : ∃ j, i = j + 1 := ⟨i - 1, by omega⟩
      have hsub : IntKind.i64.wrap (((j + 1 : Nat) : Int) - 1) = (j : Int) := by rw [IntWalk.i64_in _ (by omega)]; omega
      have HNX := Lib.hid (fun (hq : riseE l (j + 1) = 0) k h1 (hk : k < j + 1 + 1) => show riseE l k = 0 by
        by_cases e : k = j + 1
        · subst e; exact hq
        · exact hno.out k h1 (by omega))
      have HA := Lib.hid (fun hq => HAT.out (j + 1) hil (by omega) hno.out hq)
      simp only [Nat.add_sub_cancel] at x1 hre
      generalize l[j + 1] = u at *
      generalize l[j] = v at *
      clear hc
      have hnn : 0 ≤ j := Nat.zero_le _
      by_cases e1 : u = v
      · have E := HA.out (by rw [hre, if_pos e1]; decide)
        rw [hre, if_pos e1] at E
        subst e1
        have HNR := Lib.hid hnr
        have E_ := Lib.hid E
        clear hnr E
        clear hre
        go_wp2_with fail
        go_quiet (fail)
        go_wp2_with fail
        go_ret2
        rw [E_.out]
        exact ⟨by simp [Array.getD], by first | exact HNR.out.drewN _ | exact (HNR.out.drewN _).drewN _⟩
      · have g1 : (u == v) = false := by simpa using e1
        by_cases e2 : u < v
        · have E := HA.out (by rw [hre, if_neg e1, if_pos e2]; decide)
          rw [hre, if_neg e1, if_pos e2] at E
          have HNR := Lib.hid hnr
          have E_ := Lib.hid E
          clear hnr E
          clear hre
          go_wp2_with fail
          go_quiet (fail)
          go_wp2_with fail
          go_quiet (fail)
          go_wp2_with fail
          go_ret2
          rw [E_.out]
          exact ⟨by simp [Array.getD], by first | exact HNR.out.drewN _ | exact (HNR.out.drewN _).drewN _⟩
        · have HN2 := Lib.hid (HNX.out (by rw [hre, if_neg e1, if_neg e2]))
          have e3 : v ≤ u := by omega
          have HNR := Lib.hid hnr
          clear hnr
          clear hre
          go_wp2_with fail
          go_quiet (fail)
          go_wp2_with fail
          go_quiet (fail)
          go_wp2_with fail
          go_roundw
          case rel => exact ⟨j + 1 + 1, by omega, by omega, by go_num, HNR.out.drewN _, HN2⟩
          case measure => simp [intOf]; omega
    · obtain rfl : i = n := by omega
      have E := HOK.out (fun j h1 h2 => hno.out j h1 (by rw [HLN.out]; exact h2))
      have E_ := Lib.hid E
      clear E
      go_wp2_with fail
      go_ret2
      rw [E_.out]
      exact ⟨by simp [Array.getD], hnr⟩
set_option maxHeartbeats 2000000 in
theorem rtable_any (hl : SliceOf (Rep.int .u64) w B A n c l) (hB : B ≤ w.heap.size) : Calls Try.prog 52 #[.slice A n c] w fun e w' => e = .returned (.tuple #[.int .i64 (labE l).1, .int .i64 (labE l).2]) ∧ New w w' := by
  have hb := hl.bound
  have hln := hl.len
  have HL := Lib.hid (fun W (hW : New w W) => (hl.kept hW hB fun _ _ h => h))
  by_cases h0 : n = 0
  · have E : labE l = (1, 0) := by unfold labE; rw [if_pos (by omega)]
    rw [E]
    subst h0
    clear hl hln
    go_enter Try.func52, Try.ntmps52
    go_wp2_with fail
    go_ret2
    exact ⟨by simp [Array.getD], Kept.refl _ _⟩
  by_cases h8 : 8 < n
  · have E : labE l = (3, 8) := by unfold labE; rw [if_neg (by omega), if_pos (by omega)]
    rw [E]
    clear hl hln
    go_enter Try.func52, Try.ntmps52
    go_wp2_with fail
    go_ret2
    exact ⟨by simp [Array.getD], Kept.refl _ _⟩
  have hn0 : ((n : Int) == 0) = false := by simpa using h0
  have hn8 : decide (8 < (n : Int)) = false := decide_eq_false (by omega)
  have HAT := Lib.hid (fun i h1 h2 h3 h4 => labE_at (l := l) (i := i) (by omega) (by omega) h1 h2 h3 h4)
  have HOK := Lib.hid (fun h => labE_ok (l := l) (by omega) (by omega) h)
  have HLN := Lib.hid hln
  clear hln
  clear hl
  go_enter Try.func52, Try.ntmps52
  go_wp2_with fail
  go_loopw [4] (fun s wr => ∃ i : Nat, 1 ≤ i ∧ i ≤ n ∧ s = .int .i64 i ∧ New w wr ∧ Hid (∀ j, 1 ≤ j → j < i → riseE l j = 0)) (fun s _ => (n - intOf s).toNat)
  case atStart => exact ⟨1, Nat.le_refl _, by omega, rfl, Kept.refl _ _, Lib.hid fun j h1 h2 => by omega⟩
  case round =>
    obtain ⟨i, hi1, hi, rfl, hnr, hno⟩ := hrel
    by_cases hlt : i < n
    · obtain ⟨g, o, rfl, -, hc⟩ := (HL.out wr hnr).ints (by omega)
      have hil : i < l.length := by rw [← HLN.out]; exact hlt
      have hil1 : i - 1 < l.length := by omega
      have x0 := hc i hil
      have x1 := hc (i - 1) hil1
      have hre : riseE l i = if l[i] = l[i - 1] then 8 else if l[i] < l[i - 1] then 7 else 0 := by
        unfold riseE
        rw [List.getD_eq_getElem?_getD, List.getElem?_eq_getElem hil, List.getD_eq_getElem?_getD, List.getElem?_eq_getElem hil1]
        rfl
      obtain ⟨j, rfl⟩ : ∃ j, i = j + 1 := ⟨i - 1, by omega⟩
      have hsub : IntKind.i64.wrap (((j + 1 : Nat) : Int) - 1) = (j : Int) := by rw [IntWalk.i64_in _ (by omega)]; omega
      have HNX := Lib.hid (fun (hq : riseE l (j + 1) = 0) k h1 (hk : k < j + 1 + 1) => show riseE l k = 0 by
        by_cases e : k = j + 1
        · subst e; exact hq
        · exact hno.out k h1 (by omega))
      have HA := Lib.hid (fun hq => HAT.out (j + 1) hil (by omega) hno.out hq)
      simp only [Nat.add_sub_cancel] at x1 hre
      generalize l[j + 1] = u at *
      generalize l[j] = v at *
      clear hc
      have hnn : 0 ≤ j := Nat.zero_le _
      by_cases e1 : u = v
      · have E := HA.out (by rw [hre, if_pos e1]; decide)
        rw [hre, if_pos e1] at E
        subst e1
        have HNR := Lib.hid hnr
        have E_ := Lib.hid E
        clear hnr E
        clear hre
        go_wp2_with fail
        go_quiet (fail)
        go_wp2_with fail
        go_ret2
        rw [E_.out]
        exact ⟨by simp [Array.getD], by first | exact HNR.out.drewN _ | exact (HNR.out.drewN _).drewN _⟩
      · have g1 : (u == v) = false := by simpa using e1
        by_cases e2 : u < v
        · have E := HA.out (by rw [hre, if_neg e1, if_pos e2]; decide)
          rw [hre, if_neg e1, if_pos e2] at E
          have HNR := Lib.hid hnr
          have E_ := Lib.hid E
          clear hnr E
          clear hre
          go_wp2_with fail
          go_quiet (fail)
          go_wp2_with fail
          go_quiet (fail)
          go_wp2_with fail
          go_ret2
          rw [E_.out]
          exact ⟨by simp [Array.getD], by first | exact HNR.out.drewN _ | exact (HNR.out.drewN _).drewN _⟩
        · have HN2 := Lib.hid (HNX.out (by rw [hre, if_neg e1, if_neg e2]))
          have e3 : v ≤ u := by omega
          have HNR := Lib.hid hnr
          clear hnr
          clear hre
          go_wp2_with fail
          go_quiet (fail)
          go_wp2_with fail
          go_quiet (fail)
          go_wp2_with fail
          go_roundw
          case rel => exact ⟨j + 1 + 1, by omega, by omega, by go_num, HNR.out.drewN _, HN2⟩
          case measure => simp [intOf]; omega
    · obtain rfl : i = n := by omega
      have E := HOK.out (fun j h1 h2 => hno.out j h1 (by rw [HLN.out]; exact h2))
      have E_ := Lib.hid E
      clear E
      go_wp2_with fail
      go_ret2
      rw [E_.out]
      exact ⟨by simp [Array.getD], hnr⟩
end
end Go.Proofs.Ytaefgljpdpigeaa.Conf
