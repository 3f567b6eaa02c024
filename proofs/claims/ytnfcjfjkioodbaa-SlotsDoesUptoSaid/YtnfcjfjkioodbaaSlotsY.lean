/- The walks of package slots (layer 3): Gap of both. -/
import Derived.Test.YtnfcjfjkioodbaaSlotsX
import Derived.Outline
namespace Go.Proofs.Ytnfcjfjkioodbaa.Slots
open Go.RowKit Go.Fb Go.SlotsP
set_option linter.unusedVariables false
theorem At.ownm {w : World} {lo b r o c : Nat} {T : List Int} (h : At w lo b r o c T) (i : Nat) : w.cell? ⟨r, o + i % T.length, none⟩ = some (.int .i64 (SlotsP.own T i)) := by
  rw [At.own h _ (Nat.mod_lt i h.pos)]
  unfold SlotsP.own; rw [Nat.mod_mod]
theorem int_eq {a b : Int} (h : a = b) : Value.int .i64 a = .int .i64 b := by rw [h]
section
variable {w : World} {lo b r o c : Nat} {T : List Int}
set_option maxHeartbeats 1000000 in
theorem gap_any (h : At w lo b r o c T) (p : Int) : Calls Try.prog 13 #[.pointer (some ⟨b, 0, none⟩), .int .i64 p] w fun e w' => e = .returned (.int .i64 (gap T p : Nat)) ∧ ∃ q, w' = w.drewN q := by
  have hcon := contains_any h p
  by_cases hm : p ∈ T
  · have E := Lib.hid (show gap T p = gapTo (mine T p) T.length T.length from if_pos hm)
    rw [decide_eq_true hm] at hcon
    have D := Lib.hid (fun a => dist_at (f := mine T p) (SlotsP.mine_per T p) (some_iff.2 hm) a)
    have S := Lib.hid (show ∀ m, gapTo (mine T p) T.length (m + 1) = max (gapTo (mine T p) T.length m) (dist (mine T p) m T.length) from fun m => rfl)
    have B := Lib.hid (fun m => gapTo_le (f := mine T p) (SlotsP.mine_per T p) (some_iff.2 hm) m)
    have Z := Lib.hid (show gapTo (mine T p) T.length 0 = 0 from rfl)
    have M := Lib.hid (show ∀ i, mine T p i = decide (own T i = p) from fun i => rfl)
    have R := Lib.hid h.ownm
    have hc := h.cell
    have hb := h.cap
    have hx := h.capm
    have hk := h.len
    have hp := h.pos
    have H := Lib.hid h
    have HM := Lib.hid hm
    have HCON := Lib.hid hcon
    clear h hm hcon
    generalize gapTo (mine T p) T.length = F at *
    generalize dist (mine T p) = dst at *
    generalize mine T p = f at *
    generalize own T = u at *
    generalize T.length = n at *
    go_enter Try.func13, Try.ntmps13
    go_wp2_with fail
    go_step3
    go_wp2_with (refine HCON.out.mono ?_; rintro e w' ⟨rfl, rfl⟩)
    go_step3
    go_wp2_with fail
    go_loopg [5, 20] n (fun g s5 s20 wr => ∃ m q : Nat, m ≤ n ∧ n - m ≤ g ∧ s20 = .int .i64 m ∧ s5 = .int .i64 (F m : Nat) ∧ wr = w.drewN q)
    case atStart => exact ⟨0, 0, Nat.zero_le _, by omega, rfl, by rw [Z.out]; rfl, rfl⟩
    case round =>
      obtain ⟨m, q, hmn, hg, rfl, rfl, rfl⟩ := hrel
      by_cases hlt : m < n
      · obtain ⟨d, hd1, hd2, hd3, hd4⟩ := D.out m
        have HD1 := Lib.hid hd1
        have HD3 := Lib.hid hd3
        have HD4 := Lib.hid hd4
        clear hd1 hd3 hd4
        go_wp2_with fail
        go_loopg [5, 28] n (fun g s5 s28 wr => ∃ j q : Nat, j ≤ d ∧ n - j ≤ g ∧ s28 = .int .i64 j ∧ s5 = .int .i64 (F m : Nat) ∧ wr = w.drewN q)
        case atStart => exact ⟨0, q, Nat.zero_le _, by omega, rfl, rfl, rfl⟩
        case round =>
          obtain ⟨j, q2, hj, hg2, rfl, rfl, rfl⟩ := hrel
          have hcell := R.out (m + j)
          have hjn : j < n := by omega
          have sw : IntKind.i64.wrap ((m : Int) + (j : Int)) = ((m + j : Nat) : Int) := IntWalk.i64_in _ (by omega)
          have s0 : m + j ≤ 128 := by omega
          by_cases he : j = d
          · have hu : u (m + j) = p := by have := HD3.out; rw [M.out, decide_eq_true_eq] at this; rw [he]; exact this
            rw [hu] at hcell
            clear hu
            have hF := S.out m
            rw [HD1.out] at hF
            have hBm := B.out m
            have hmod := Nat.mod_lt (m + j) hp
            generalize m + j = s at *
            have HF := Lib.hid hF
            have HE := Lib.hid he
            clear hF he
            go_wp2_with fail
            go_quiet (fail)
            go_wp2_with fail
            all_goals
              go_roundg (n - (m + 1))
              case measure => omega
              case rel => exact ⟨m + 1, q2 + nq, by omega, by omega, by go_num, int_eq (by have := HF.out; have := HE.out; omega), rfl⟩
          · have hu : u (m + j) ≠ p := by have := HD4.out j (by omega); rw [M.out, decide_eq_false_iff_not] at this; exact this
            generalize u (m + j) = v at *
            have hv : (v == p) = false := by simpa using hu
            have hmod := Nat.mod_lt (m + j) hp
            generalize m + j = s at *
            clear hu
            go_wp2_with fail
            go_quiet (fail)
            go_wp2_with fail
            go_roundg (n - (j + 1))
            case measure => omega
            case rel => exact ⟨j + 1, q2 + nq, by omega, by omega, by go_num, rfl, rfl⟩
      · obtain rfl : m = n := by omega
        go_wp2_with fail
        try rw [Exit.noGoto_ret]
        go_ret
        exact ⟨by rw [E.out]; rfl, _, rfl⟩
  · have E := Lib.hid (show gap T p = 0 from if_neg hm)
    rw [decide_eq_false hm] at hcon
    have hc := h.cell
    have hb := h.cap
    have hx := h.capm
    have H := Lib.hid h
    have HM := Lib.hid hm
    have HCON := Lib.hid hcon
    clear h hm hcon
    generalize T.length = n at *
    go_enter Try.func13, Try.ntmps13
    go_wp2_with fail
    go_step3
    go_wp2_with (refine HCON.out.mono ?_; rintro e w' ⟨rfl, rfl⟩)
    try rw [Exit.noGoto_ret]
    go_ret
    exact ⟨by rw [E.out]; rfl, 0, rfl⟩
end
end Go.Proofs.Ytnfcjfjkioodbaa.Slots
