/- The walks of package slots (layer 3): the reference's ahead, Count of both, Contains, Gap of both. -/
import Derived.Test.YtnfcjfjkioodbaaSlotsW
import Derived.Deep.LoopGhost
import Derived.WalkMore
namespace Go.Proofs.Ytnfcjfjkioodbaa.Slots
open Go.RowKit Go.Fb Go.SlotsP
set_option linter.unusedVariables false

theorem At.drewN {w : World} {lo b r o c : Nat} {T : List Int} (h : At w lo b r o c T) (q : Nat) : At (w.drewN q) lo b r o c T := h.new ((Kept.refl _ _).drewN q)
section
variable {w : World} {lo b r o c : Nat} {T : List Int}
theorem ahead_any (h : At w lo b r o c T) (p t : Int) (ht : t ≤ 9223372036854775807) : Calls Try.prog 21 #[.pointer (some ⟨b, 0, none⟩), .int .i64 p, .int .i64 t] w fun e w' => e = .returned (.int .i64 (aheadT T p t)) ∧ w = w' := ahead_walk h p t ht
theorem inq (h : At w lo b r o c T) (p i : Int) (m : Nat) (hi : i = m) (hm : m ≤ T.length) : Calls Try.prog 22 #[.pointer (some ⟨b, 0, none⟩), .int .i64 p, .int .i64 i] w fun e w' => e = .returned (.int .i64 (cw (mine T p) 0 m : Nat)) ∧ ∃ q, w' = w.drewN q := by
  subst hi
  exact (in_any h p m hm).mono fun _ _ h => ⟨h.1, 0, h.2.symm⟩
theorem rahead_any (h : At w lo b r o c T) (p t : Int) (ht : t ≤ 9223372036854775807) : Calls Try.prog 23 #[.pointer (some ⟨b, 0, none⟩), .int .i64 p, .int .i64 t] w fun e w' => e = .returned (.int .i64 (aheadT T p t)) ∧ ∃ q, w' = w.drewN q := by
  by_cases h0 : t < 0
  · have E := Lib.hid (show aheadT T p t = 0 from (ahead_bd T p t).2.2 (by omega))
    have H := Lib.hid h
    clear h
    go_enter Try.func23, Try.ntmps23
    go_wp2
    go_ret
    exact ⟨by rw [E.out]; rfl, 0, rfl⟩
  · obtain ⟨m, rfl⟩ : ∃ m : Nat, t = m := ⟨t.toNat, by omega⟩
    have hb1 := ahead_bd T p m
    have e0 : aheadT T p m = ((m / T.length : Nat) : Int) * (cw (mine T p) 0 T.length : Nat) + (cw (mine T p) 0 (m % T.length) : Nat) := by
      unfold aheadT
      rw [Int.toNat_natCast, cw_divmod (SlotsP.mine_per T p) m, Int.natCast_add, Int.natCast_mul]
    have b1 : m / T.length ≤ m := Nat.div_le_self m _
    have b2 : m % T.length < T.length := Nat.mod_lt m h.pos
    have c1 := cw_le (f := mine T p) 0 T.length
    have c2 := cw_le (f := mine T p) 0 (m % T.length)
    have hc := h.cell
    have hb := h.cap
    have hx := h.capm
    have hk := h.len
    have hp := h.pos
    have hin1 := fun q => inq (h.drewN q) p T.length T.length rfl (Nat.le_refl _)
    have hin2 := fun q => inq (h.drewN q) p ((m % T.length : Nat) : Int) (m % T.length) rfl (by omega)
    have hle : aheadT T p m ≤ m := hb1.2.1 (by omega)
    have hge := hb1.1
    have e1 : (m : Int) / (T.length : Int) = ((m / T.length : Nat) : Int) := (Int.natCast_ediv m _).symm
    have e2 : (m : Int) % (T.length : Int) = ((m % T.length : Nat) : Int) := (Int.natCast_emod m _).symm
    generalize cw (mine T p) 0 T.length = x1 at *
    generalize cw (mine T p) 0 (m % T.length) = x2 at *
    generalize m / T.length = q at *
    generalize m % T.length = s at *
    generalize T.length = n at *
    have hq : 0 ≤ (q : Int) * (x1 : Int) := Int.mul_nonneg (by omega) (by omega)
    have W3 : Hid (wrap64 (q : Int) = q ∧ wrap64 ((q : Int) * (x1 : Int)) = (q : Int) * (x1 : Int) ∧ wrap64 ((q : Int) * (x1 : Int) + (x2 : Int)) = (q : Int) * (x1 : Int) + (x2 : Int)) := Lib.hid ⟨IntWalk.wrap64_in _ (by omega), IntWalk.wrap64_in _ (by omega), IntWalk.wrap64_in _ (by omega)⟩
    have H := Lib.hid h
    have E0 := Lib.hid e0
    have HLE := Lib.hid hle
    have HGE := Lib.hid hge
    have HB1 := Lib.hid hb1
    clear h e0 hle hge hb1
    have H1 := Lib.hid hin1
    have H2 := Lib.hid hin2
    clear hin1 hin2 hq
    have h0' : 0 ≤ (m : Int) := by omega
    clear h0 b1 c1 c2
    go_enter Try.func23, Try.ntmps23
    go_wp2
    go_quiet (first | (with_reducible exact Calls.quiet_of (H1.out _)) | (with_reducible exact Calls.quiet_of (H2.out _)))
    go_wp2
    go_ret
    refine ⟨?_, _, rfl⟩
    show Ending.returned (.int .i64 (wrap64 (wrap64 (wrap64 (q : Int) * (x1 : Int)) + (x2 : Int)))) = _
    rw [W3.out.1, W3.out.2.1, W3.out.2.2, E0.out]
theorem count_any (h : At w lo b r o c T) (p x y : Int) (hx : x ≤ 9223372036854775807) (hy : y ≤ 9223372036854775807) : Calls Try.prog 15 #[.pointer (some ⟨b, 0, none⟩), .int .i64 p, .int .i64 x, .int .i64 y] w fun e w' => e = .returned (.int .i64 (count T p x y)) ∧ ∃ q, w' = w.drewN q := by
  have h1 := ahead_any h p x hx
  have h2 := ahead_any h p y hy
  have b1 := ahead_bd T p x
  have b2 := ahead_bd T p y
  have g1 : aheadT T p x ≤ 9223372036854775807 := by by_cases hh : 0 ≤ x; (have := b1.2.1 hh; omega); (have := b1.2.2 (by omega); omega)
  have g2 : aheadT T p y ≤ 9223372036854775807 := by by_cases hh : 0 ≤ y; (have := b2.2.1 hh; omega); (have := b2.2.2 (by omega); omega)
  have g3 := b1.1
  have g4 := b2.1
  have E := Lib.hid (show count T p x y = max 0 (aheadT T p y - aheadT T p x) from rfl)
  clear b1 b2 hx hy
  generalize aheadT T p x = u at *
  generalize aheadT T p y = v at *
  generalize count T p x y = z at *
  have H := Lib.hid h
  clear h
  have H1 := Lib.hid h1
  have H2 := Lib.hid h2
  clear h1 h2
  go_enter Try.func15, Try.ntmps15
  go_wp2_with fail
  refine H2.out.mono ?_
  rintro e w' ⟨rfl, rfl⟩
  go_wp2_with fail
  refine H1.out.mono ?_
  rintro e w' ⟨rfl, rfl⟩
  go_wp2_with fail
  all_goals (go_ret; exact ⟨by rw [E.out]; first | rfl | (simp [Array.getD]; omega), 0, rfl⟩)
theorem rcount_any (h : At w lo b r o c T) (p x y : Int) (hx : x ≤ 9223372036854775807) (hy : y ≤ 9223372036854775807) : Calls Try.prog 16 #[.pointer (some ⟨b, 0, none⟩), .int .i64 p, .int .i64 x, .int .i64 y] w fun e w' => e = .returned (.int .i64 (count T p x y)) ∧ ∃ q, w' = w.drewN q := by
  by_cases h0 : y ≤ x
  · have E := Lib.hid (count_le T p x y h0)
    have H := Lib.hid h
    clear h
    go_enter Try.func16, Try.ntmps16
    go_wp2_with fail
    go_ret
    exact ⟨by rw [E.out]; rfl, 0, rfl⟩
  · have h1 := fun q => rahead_any (h.drewN q) p x hx
    have h2 := rahead_any h p y hy
    have b1 := ahead_bd T p x
    have b2 := ahead_bd T p y
    have g1 : aheadT T p x ≤ 9223372036854775807 := by by_cases hh : 0 ≤ x; (have := b1.2.1 hh; omega); (have := b1.2.2 (by omega); omega)
    have g2 : aheadT T p y ≤ 9223372036854775807 := by by_cases hh : 0 ≤ y; (have := b2.2.1 hh; omega); (have := b2.2.2 (by omega); omega)
    have g3 := b1.1
    have g4 := b2.1
    have E := Lib.hid (count_lt T p x y (by omega))
    clear b1 b2 hx hy
    generalize aheadT T p x = u at *
    generalize aheadT T p y = v at *
    generalize count T p x y = z at *
    have H := Lib.hid h
    clear h
    have H1 := Lib.hid h1
    have H2 := Lib.hid h2
    clear h1 h2
    go_enter Try.func16, Try.ntmps16
    go_wp2_with fail
    refine H2.out.mono ?_
    rintro e w' ⟨rfl, q, rfl⟩
    go_wp2_with fail
    refine (H1.out q).mono ?_
    rintro e w' ⟨rfl, q2, rfl⟩
    go_wp2_with fail
    go_ret
    exact ⟨by rw [E.out]; rfl, q + q2, rfl⟩
theorem len_any (h : At w lo b r o c T) : Calls Try.prog 17 #[.pointer (some ⟨b, 0, none⟩)] w fun e w' => e = .returned (.int .i64 T.length) ∧ ∃ q, w' = w.drewN q := by
  have hc := h.cell
  have hb := h.cap
  have hx := h.capm
  have H := Lib.hid h
  clear h
  generalize T.length = n at *
  go_enter Try.func17, Try.ntmps17
  go_wp2_with fail
  go_ret
  exact ⟨rfl, 0, rfl⟩
theorem index_any (h : At w lo b r o c T) (p : Int) : Calls Try.prog 27 #[.slice (some ⟨r, o, none⟩) T.length c, .int .i64 p] w fun e w' => e = .returned (.int .i64 (if p ∈ T then (T.findIdx (· == p) : Nat) else -1)) ∧ w = w' := by
  have R := Lib.hid h.own
  have hb := h.cap
  have hx := h.capm
  have hk := h.len
  have hown : ∀ j (hj : j < T.length), own T j = T[j] := fun j hj => by
    have e : j % T.length = j := Nat.mod_eq_of_lt hj
    have g := getD_own T j (by rw [e]; exact hj)
    rw [← g]; simp only [e]
  have hit : ∀ j, j < T.length → (∀ i, i < j → own T i ≠ p) → own T j = p → p ∈ T ∧ T.findIdx (· == p) = j := fun j hj h1 h2 => by
    rw [hown j hj] at h2
    refine ⟨h2 ▸ List.getElem_mem hj, (List.findIdx_eq hj).2 ⟨by simpa using h2, fun i hi => ?_⟩⟩
    have := h1 i hi
    rw [hown i (by omega)] at this
    simpa using this
  have miss : (∀ i, i < T.length → own T i ≠ p) → ¬ p ∈ T := fun h1 h2 => by
    obtain ⟨j, hj, e⟩ := List.mem_iff_getElem.1 h2
    exact h1 j hj (by rw [hown j hj]; exact e)
  generalize hf : (if p ∈ T then ((T.findIdx (· == p) : Nat) : Int) else -1) = res at *
  have H1 := Lib.hid (show ∀ j, j < T.length → (∀ i, i < j → own T i ≠ p) → own T j = p → res = j from fun j a b c => by obtain ⟨g1, g2⟩ := hit j a b c; rw [← hf, if_pos g1, g2])
  have H2 := Lib.hid (show (∀ i, i < T.length → own T i ≠ p) → res = -1 from fun a => by rw [← hf, if_neg (miss a)])
  have H := Lib.hid h
  clear h
  clear hit miss hf hown
  generalize own T = f at *
  generalize T.length = n at *
  go_enter Try.func27, Try.ntmps27
  go_wp2
  go_loop [8] (fun i => ∃ j : Nat, j ≤ n ∧ i = .int .i64 j ∧ Hid (∀ i, i < j → f i ≠ p)) (fun i => (n - intOf i).toNat)
  case atStart => exact ⟨0, Nat.zero_le _, rfl, Lib.hid fun i hi => absurd hi (Nat.not_lt_zero _)⟩
  case round =>
    obtain ⟨j, hj, rfl, A⟩ := hrel
    by_cases hlt : j < n
    · have hcell := R.out j hlt
      by_cases he : f j = p
      · have E := Lib.hid (H1.out j hlt A.out he)
        rw [he] at hcell
        clear he
        go_wp2
        go_ret
        exact ⟨by rw [E.out]; rfl, rfl⟩
      · have A2 := Lib.hid (show ∀ i, i < j + 1 → f i ≠ p from fun i hi => by
          by_cases e : i = j
          · subst e; exact he
          · exact A.out i (by omega))
        generalize f j = v at *
        have he2 : (p == v) = false := by simpa using fun h => he h.symm
        go_wp2
        go_round
        case rel => exact ⟨j + 1, by omega, by go_num, A2⟩
        case measure => simp [intOf]; omega
    · obtain rfl : j = n := by omega
      have E := Lib.hid (H2.out A.out)
      go_wp2
      go_ret
      exact ⟨by rw [E.out]; rfl, rfl⟩
theorem contains_any (h : At w lo b r o c T) (p : Int) : Calls Try.prog 20 #[.slice (some ⟨r, o, none⟩) T.length c, .int .i64 p] w fun e w' => e = .returned (.bool (decide (p ∈ T))) ∧ w = w' := by
  have hi := index_any h p
  by_cases hm : p ∈ T
  · rw [if_pos hm] at hi
    rw [decide_eq_true hm]
    have b1 : 0 ≤ ((T.findIdx (· == p) : Nat) : Int) := by omega
    generalize T.length = n at *
    generalize ((T.findIdx (· == p) : Nat) : Int) = x at *
    have H := Lib.hid h
    have HM := Lib.hid hm
    have HI := Lib.hid hi
    clear h hm hi
    go_enter Try.func20, Try.ntmps20
    go_wp2_with fail
    refine HI.out.mono ?_
    rintro e w' ⟨rfl, rfl⟩
    go_wp2_with fail
    go_ret
    exact ⟨rfl, rfl⟩
  · rw [if_neg hm] at hi
    rw [decide_eq_false hm]
    generalize T.length = n at *
    have H := Lib.hid h
    have HM := Lib.hid hm
    have HI := Lib.hid hi
    clear h hm hi
    go_enter Try.func20, Try.ntmps20
    go_wp2_with fail
    refine HI.out.mono ?_
    rintro e w' ⟨rfl, rfl⟩
    go_wp2_with fail
    go_ret
    exact ⟨rfl, rfl⟩
end
end Go.Proofs.Ytnfcjfjkioodbaa.Slots
