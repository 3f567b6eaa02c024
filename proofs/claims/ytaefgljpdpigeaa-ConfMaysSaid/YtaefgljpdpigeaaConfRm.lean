/- The walk of the reference's May (layer 14). -/
import Derived.Test.YtaefgljpdpigeaaConfM
import Derived.StillTailTactics
import Derived.Deep.QuietTactic
import Derived.Deep.RegionHeld3
namespace Go.Proofs.Ytaefgljpdpigeaa.Conf
open Go.RowKit Go.Fb Go.CodeP
set_option linter.unusedVariables false
theorem rwithin_any (n a b : Int) (w : World) : Calls Try.prog 54 #[.int .i64 n, .int .i64 a, .int .i64 b] w fun e w' => e = .returned (.bool (withinB n a b)) ∧ w = w' := by
  have hcs : (n < a ∧ withinB n a b = false) ∨ (a ≤ n ∧ n ≤ b ∧ withinB n a b = true) ∨ (a ≤ n ∧ b < n ∧ withinB n a b = false) := by
    unfold withinB
    by_cases h1 : n < a
    · exact .inl ⟨h1, decide_eq_false (fun h => by omega)⟩
    · by_cases h2 : n ≤ b
      · exact .inr (.inl ⟨by omega, h2, decide_eq_true ⟨by omega, h2⟩⟩)
      · exact .inr (.inr ⟨by omega, by omega, decide_eq_false (fun h => by omega)⟩)
  generalize withinB n a b = res at *
  rcases hcs with ⟨a1, rfl⟩ | ⟨a1, b1, rfl⟩ | ⟨a1, b1, rfl⟩
  all_goals
    go_enter Try.func54, Try.ntmps54
    go_wp2_with fail
    go_ret
    exact ⟨by simp [Array.getD] <;> omega, rfl⟩
/-- What is wrong with a table, by the document. -/
def tabE (l : List Int) (parts : Int) : Int := if l.length = 0 then 1 else if 64 < l.length then 3 else if ∀ x ∈ l, withinB x 0 (parts - 1) = true then 0 else 2
theorem tab_many {l : List Int} {parts : Int} (h : manyE l.length 64 ≠ 0) : tabE l parts = manyE l.length 64 := by
  unfold tabE manyE
  by_cases h0 : l.length = 0
  · rw [if_pos h0, if_pos (by omega)]
  · by_cases h1 : 64 < l.length
    · rw [if_neg h0, if_pos h1, if_neg (by omega), if_pos (by omega)]
    · exact absurd (show manyE l.length 64 = 0 by unfold manyE; rw [if_neg (by omega), if_neg (by omega)]) h
theorem bad_within {parts : Int} (x : Int) : Slots.bad parts x = !withinB x 0 (parts - 1) := by
  unfold Slots.bad withinB
  rw [Bool.eq_iff_iff]
  simp
  omega
theorem tab_new {l : List Int} {parts : Int} (h : manyE l.length 64 = 0) (h1 : 1 ≤ parts) (h8 : parts ≤ 8) : tabE l parts = (Slots.newE l parts).1 := by
  have hm : l.length ≠ 0 ∧ l.length ≤ 64 := by
    unfold manyE at h
    split at h
    · exact absurd h (by decide)
    · split at h
      · exact absurd h (by decide)
      · omega
  unfold tabE Slots.newE
  rw [if_neg hm.1, if_neg (show ¬ 64 < l.length by omega), if_neg (show ¬ (parts < 1 ∨ 8 < parts ∨ l.length = 0) by omega), if_neg (show ¬ 64 < l.length by omega)]
  by_cases hf : l.findIdx (Slots.bad parts) < l.length
  · have h3 : ¬ ∀ x ∈ l, withinB x 0 (parts - 1) = true := fun hh => by
      have := List.findIdx_getElem (w := hf)
      rw [bad_within, hh _ (List.getElem_mem hf)] at this
      cases this
    rw [if_pos hf, if_neg h3]
  · have h3 : ∀ x ∈ l, withinB x 0 (parts - 1) = true := fun x hx => by
      have h2 := List.findIdx_eq_length.1 (show l.findIdx (Slots.bad parts) = l.length by have := List.findIdx_le_length (p := Slots.bad parts) (xs := l); omega) x hx
      rw [bad_within] at h2
      cases hw : withinB x 0 (parts - 1) with
      | true => rfl
      | false => rw [hw] at h2; cases h2
    rw [if_neg hf, if_pos h3]
section
variable {w : World} {B n c : Nat} {A : Option Addr} {l : List Int}
set_option maxHeartbeats 1000000 in
theorem rtables_any (parts : Int) (h0 : 0 ≤ parts) (h1 : parts ≤ 4611686018427387904) (hl : SliceOf (Rep.int .i64) w B A n c l) (hB : B ≤ w.heap.size) : Calls Try.prog 53 #[.slice A n c, .int .i64 parts] w fun e w' => e = .returned (.int .i64 (tabE l parts)) ∧ New w w' := by
  have hn := hl.len
  have hb := hl.bound
  have HWI := Lib.hid (fun x W => rwithin_any x 0 (parts - 1) W)
  have hsub : IntKind.i64.wrap (parts - 1) = parts - 1 := IntWalk.i64_in _ (by omega)
  by_cases a0 : n = 0
  · have E := Lib.hid (show tabE l parts = 1 by unfold tabE; rw [if_pos (by omega)])
    subst a0
    clear hn
    go_enter Try.func53, Try.ntmps53
    go_wp2_with fail
    go_ret
    rw [E.out]
    exact ⟨by simp [Array.getD], Kept.refl _ _⟩
  · by_cases a1 : 64 < n
    · have E := Lib.hid (show tabE l parts = 3 by unfold tabE; rw [if_neg (by omega), if_pos (by omega)])
      have a1' : (64 : Int) < (n : Int) := by omega
      clear hn
      go_enter Try.func53, Try.ntmps53
      go_wp2_with fail
      go_ret
      rw [E.out]
      exact ⟨by simp [Array.getD], Kept.refl _ _⟩
    · obtain ⟨g, o, rfl, -, -⟩ := hl.ints (by omega)
      have HLK := Lib.hid (fun W (hW : New w W) => hl.kept hW hB fun _ _ h => h)
      have HN := Lib.hid hn
      clear hl hn
      have a0' : ¬ (n : Int) = 0 := by omega
      have a1' : (n : Int) ≤ 64 := by omega
      have z1 : ((n : Int) == 0) = false := by simpa using a0'
      have z2 : decide ((64 : Int) < (n : Int)) = false := decide_eq_false (by omega)
      have HA := Lib.hid (And.intro a0 a1)
      clear a0 a1
      go_enter Try.func53, Try.ntmps53
      go_wp2_with fail
      go_loopw [5] (fun s wr => ∃ k : Nat, k ≤ n ∧ s = .int .i64 k ∧ New w wr ∧ Hid (∀ j (hj : j < l.length), j < k → withinB l[j] 0 (parts - 1) = true)) (fun s _ => (n - intOf s).toNat)
      case atStart => exact ⟨0, Nat.zero_le _, rfl, Kept.refl _ _, Lib.hid fun j _ h => absurd h (Nat.not_lt_zero _)⟩
      case round =>
        obtain ⟨k, hk, rfl, hnr, hno⟩ := hrel
        have HNR := Lib.hid hnr
        by_cases hlt : k < n
        · have hkl : k < l.length := by have := HN.out; omega
          obtain ⟨b1, o1, eA, -, hc⟩ := (HLK.out wr hnr).ints (by omega)
          injection eA with eA
          injection eA with e1 e2
          subst e1; subst e2
          have xk := hc k hkl
          have hwi := HWI.out l[k] wr
          clear hc hnr
          cases hw : withinB l[k] 0 (parts - 1) with
          | true =>
            have HNX := Lib.hid (show ∀ j (hj : j < l.length), j < k + 1 → withinB l[j] 0 (parts - 1) = true from fun j hj hji => by
              by_cases e : j = k
              · subst e; exact hw
              · exact hno.out j hj (by omega))
            rw [hw] at hwi
            clear hw hno
            generalize l[k] = x at *
            have HWJ := Lib.hid hwi
            clear hwi
            go_wp2_with (go_at_call 54; refine HWJ.out.mono ?_; rintro e w' ⟨rfl, rfl⟩)
            go_roundw
            case rel => exact ⟨k + 1, by omega, by go_num, HNR.out, HNX⟩
            case measure => simp [intOf]; omega
          | false =>
            rw [hw] at hwi
            have E := Lib.hid (show tabE l parts = 2 by
              unfold tabE
              rw [if_neg (by omega), if_neg (by have := HN.out; have := HA.out; omega), if_neg (fun h => ?_)]
              rw [h _ (List.getElem_mem hkl)] at hw
              cases hw)
            clear hw hno
            generalize l[k] = x at *
            have HWJ := Lib.hid hwi
            clear hwi
            go_wp2_with (go_at_call 54; refine HWJ.out.mono ?_; rintro e w' ⟨rfl, rfl⟩)
            go_ret
            rw [E.out]
            exact ⟨by simp [Array.getD], HNR.out⟩
        · obtain rfl : k = n := by omega
          have E := Lib.hid (show tabE l parts = 0 by
            unfold tabE
            rw [if_neg (by have := HN.out; have := HA.out; omega), if_neg (by have := HN.out; have := HA.out; omega), if_pos (fun x hx => ?_)]
            obtain ⟨j, hj, rfl⟩ := List.mem_iff_getElem.1 hx
            exact hno.out j hj (by have := HN.out; omega))
          clear hno hnr
          go_wp2_with fail
          go_ret
          rw [E.out]
          exact ⟨by simp [Array.getD], HNR.out⟩
end
end Go.Proofs.Ytaefgljpdpigeaa.Conf
