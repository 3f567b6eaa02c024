/- The walks of package slots (layer 3): Owner, ahead, Count, Len. -/
import Derived.Test.YtnfcjfjkioodbaaSlotsP
import Derived.Test.YtnfcjfjkioodbaaOwn
import Derived.Test.YtnfcjfjkioodbaaProg
import Derived.Deep.QuietTactic
import Derived.BigQuiet
import Derived.IntWalk
namespace Go.Proofs.Ytnfcjfjkioodbaa.Slots
open Go.RowKit Go.Fb Go.SlotsP
set_option linter.unusedVariables false

/-- A table behind a pointer. -/
structure At (w : World) (lo b r o c : Nat) (T : List Int) : Prop where
  cell : w.cell? ⟨b, 0, none⟩ = some (.slice (some ⟨r, o, none⟩) T.length c)
  row : ∀ i (h : i < T.length), w.cell? ⟨r, o + i, none⟩ = some (.int .i64 T[i])
  pos : 0 < T.length
  len : T.length ≤ 64
  ok : ∀ x ∈ T, 0 ≤ x ∧ x < 8
  lob : lo ≤ b
  lor : lo ≤ r
  cap : T.length ≤ c
  capm : c ≤ 9223372036854775807
theorem At.kept {g : Nat → Prop} {w w' : World} {lo b r o c : Nat} {T : List Int} (h : At w lo b r o c T) (hk : Kept g w w') (hg : ∀ k, lo ≤ k → ¬ g k) : At w' lo b r o c T :=
  ⟨(hk.cell (lt_of_cell h.cell).1 (hg b h.lob)).trans h.cell, fun i hi => (hk.cell (lt_of_cell (h.row i hi)).1 (hg r h.lor)).trans (h.row i hi), h.pos, h.len, h.ok, h.lob, h.lor, h.cap, h.capm⟩
theorem At.new {w w' : World} {lo b r o c : Nat} {T : List Int} (h : At w lo b r o c T) (hk : New w w') : At w' lo b r o c T := h.kept hk fun _ _ h => h
theorem getD_own (T : List Int) (t : Nat) (h : t % T.length < T.length) : T[t % T.length] = own T t := by
  unfold own; rw [List.getD_eq_getElem?_getD, List.getElem?_eq_getElem h]; rfl
theorem At.own {w : World} {lo b r o c : Nat} {T : List Int} (h : At w lo b r o c T) (i : Nat) (hi : i < T.length) : w.cell? ⟨r, o + i, none⟩ = some (.int .i64 (own T i)) := by
  have := h.row i hi
  have e : i % T.length = i := Nat.mod_eq_of_lt hi
  have g := getD_own T i (by rw [e]; exact hi)
  rw [← g]; simp only [e]; exact this
/-- Whose a tick is; below 0 nobody's. -/
def ownI (T : List Int) (t : Int) : Int := if t < 0 then -1 else own T t.toNat
section
variable {w : World} {lo b r o c : Nat} {T : List Int}
theorem owner_any (h : At w lo b r o c T) (t : Int) : Calls Try.prog 11 #[.pointer (some ⟨b, 0, none⟩), .int .i64 t] w fun e w' => e = .returned (.int .i64 (ownI T t)) ∧ ∃ q, w' = w.drewN q := by
  by_cases h0 : t < 0
  · have E := Lib.hid (show ownI T t = -1 from if_pos h0)
    have H := Lib.hid h
    clear h
    go_enter Try.func11, Try.ntmps11
    go_wp2
    go_ret
    exact ⟨by rw [E.out]; rfl, 0, rfl⟩
  · obtain ⟨m, rfl⟩ : ∃ m : Nat, t = m := ⟨t.toNat, by omega⟩
    have hm := Nat.mod_lt m h.pos
    have E := Lib.hid (show ownI T m = own T m from if_neg h0)
    have hc := h.cell
    have hr := h.row _ hm
    rw [getD_own] at hr
    have hp := h.pos
    have hb := h.cap
    have hx := h.capm
    have H := Lib.hid h
    clear h
    generalize own T m = v at *
    generalize T.length = n at *
    go_enter Try.func11, Try.ntmps11
    go_wp2
    go_quiet (fail)
    go_wp2
    go_ret
    exact ⟨by rw [E.out]; rfl, _, rfl⟩
theorem rowner_any (h : At w lo b r o c T) (t : Int) : Calls Try.prog 12 #[.pointer (some ⟨b, 0, none⟩), .int .i64 t] w fun e w' => e = .returned (.int .i64 (ownI T t)) ∧ ∃ q, w' = w.drewN q := by
  by_cases h0 : t < 0
  · have E := Lib.hid (show ownI T t = -1 from if_pos h0)
    have H := Lib.hid h
    clear h
    go_enter Try.func12, Try.ntmps12
    go_wp2
    go_ret
    exact ⟨by rw [E.out]; rfl, 0, rfl⟩
  · obtain ⟨m, rfl⟩ : ∃ m : Nat, t = m := ⟨t.toNat, by omega⟩
    have hm := Nat.mod_lt m h.pos
    have E := Lib.hid (show ownI T m = own T m from if_neg h0)
    have hc := h.cell
    have hr := h.row _ hm
    rw [getD_own] at hr
    have hp := h.pos
    have hb := h.cap
    have hx := h.capm
    have H := Lib.hid h
    clear h
    generalize own T m = v at *
    generalize T.length = n at *
    go_enter Try.func12, Try.ntmps12
    go_wp2
    go_quiet (fail)
    go_wp2
    go_ret
    exact ⟨by rw [E.out]; rfl, _, rfl⟩
/-- How many of the first ones are one's. -/
theorem in_any (h : At w lo b r o c T) (p : Int) (m : Nat) (hm : m ≤ T.length) : Calls Try.prog 22 #[.pointer (some ⟨b, 0, none⟩), .int .i64 p, .int .i64 m] w fun e w' => e = .returned (.int .i64 (cw (mine T p) 0 m : Nat)) ∧ w = w' := by
  have hc := h.cell
  have hx := h.capm
  have hb := h.cap
  have hk := h.len
  have hr := h.own
  have H := Lib.hid h
  clear h
  have hs : ∀ j, (cw (mine T p) 0 (j + 1) : Nat) = cw (mine T p) 0 j + if own T j = p then 1 else 0 := fun j => by simp [cw, mine]
  have hle : ∀ j, cw (mine T p) 0 j ≤ j := fun j => cw_le 0 j
  generalize cw (mine T p) 0 = cnt at *
  have HR := Lib.hid hr
  have HS := Lib.hid hs
  have HLE := Lib.hid hle
  clear hr hs hle
  generalize T.length = n at *
  go_enter Try.func22, Try.ntmps22
  go_wp2
  go_loop [7, 8] (fun s i => ∃ j : Nat, j ≤ m ∧ i = .int .i64 j ∧ s = .int .i64 (cnt j : Nat)) (fun _ i => (m - intOf i).toNat)
  case atStart => exact ⟨0, Nat.zero_le _, rfl, by have := HLE.out 0; rw [show cnt 0 = 0 by omega]; rfl⟩
  case round =>
    obtain ⟨j, hj, rfl, rfl⟩ := hrel
    by_cases hlt : j < m
    · have hcell := HR.out j (by omega)
      have h1 := HLE.out j
      have h2 := Lib.hid (HS.out j)
      by_cases he : own T j = p
      · rw [he] at hcell
        have h2 := Lib.hid (show cnt (j + 1) = cnt j + 1 by rw [h2.out, if_pos he])
        clear he
        go_wp2
        go_round
        case rel => exact ⟨j + 1, by omega, by go_num, by rw [h2.out]; go_num⟩
        case measure => simp [intOf]; omega
      · have h3 := Lib.hid (show cnt (j + 1) = cnt j by rw [h2.out, if_neg he]; rfl)
        generalize own T j = v at *
        have he2 : (v == p) = false := by simpa using he
        go_wp2
        go_round
        case rel => exact ⟨j + 1, by omega, by go_num, by rw [h3.out]⟩
        case measure => simp [intOf]; omega
    · obtain rfl : j = m := by omega
      go_wp2
      go_ret
      exact ⟨rfl, rfl⟩
/-- What ahead has counted behind so many entries. -/
def part (T : List Int) (p : Int) (m j : Nat) : Nat := cw (mine T p) 0 j * (m / T.length) + cw (mine T p) 0 (min j (m % T.length))
theorem part_le (T : List Int) (p : Int) (m : Nat) {j : Nat} (hj : j ≤ T.length) : part T p m j ≤ m := by
  have h1 := cw_le (f := mine T p) 0 j
  have h2 := cw_le (f := mine T p) 0 (min j (m % T.length))
  have h3 : cw (mine T p) 0 j * (m / T.length) ≤ T.length * (m / T.length) := Nat.mul_le_mul_right _ (by omega)
  have h4 := Nat.div_add_mod m T.length
  unfold part; omega
theorem part_succ (T : List Int) (p : Int) (m j : Nat) : part T p m (j + 1) = part T p m j + if own T j = p then m / T.length + (if j < m % T.length then 1 else 0) else 0 := by
  have hc : cw (mine T p) 0 (j + 1) = cw (mine T p) 0 j + if own T j = p then 1 else 0 := by simp [cw, mine]
  unfold part
  rw [hc]
  by_cases hl : j < m % T.length
  · rw [show min (j + 1) (m % T.length) = j + 1 by omega, show min j (m % T.length) = j by omega, hc]
    split
    · rw [Nat.add_mul]; omega
    · rfl
  · rw [show min (j + 1) (m % T.length) = m % T.length by omega, show min j (m % T.length) = m % T.length by omega]
    split
    · rw [Nat.add_mul]; omega
    · rfl
theorem part_end (T : List Int) (p : Int) (m : Nat) (hk : 0 < T.length) : (part T p m T.length : Nat) = aheadT T p m := by
  have := Nat.mod_lt m hk
  unfold part aheadT
  rw [show min T.length (m % T.length) = m % T.length by omega, Int.toNat_natCast, cw_divmod (SlotsP.mine_per T p) m, Nat.mul_comm]
theorem ahead_walk (h : At w lo b r o c T) (p t : Int) (ht : t ≤ 9223372036854775807) : Calls Try.prog 21 #[.pointer (some ⟨b, 0, none⟩), .int .i64 p, .int .i64 t] w fun e w' => e = .returned (.int .i64 (aheadT T p t)) ∧ w = w' := by
  by_cases h0 : t ≤ 0
  · have E := Lib.hid (show aheadT T p t = 0 from (ahead_bd T p t).2.2 h0)
    have H := Lib.hid h
    clear h
    go_enter Try.func21, Try.ntmps21
    go_wp2
    go_ret
    exact ⟨by rw [E.out]; rfl, rfl⟩
  · obtain ⟨m, rfl⟩ : ∃ m : Nat, t = m := ⟨t.toNat, by omega⟩
    have E := Lib.hid (part_end T p m h.pos)
    have L := Lib.hid (fun j (hj : j ≤ T.length) => part_le T p m hj)
    have S := Lib.hid (fun j => part_succ T p m j)
    have Z := Lib.hid (show part T p m 0 = 0 by simp [part, cw])
    have hc := h.cell
    have hb := h.cap
    have hx := h.capm
    have hk := h.len
    have hp := h.pos
    have R := Lib.hid h.own
    have H := Lib.hid h
    clear h
    generalize part T p m = F at *
    generalize hn : T.length = n at *
    have N := Lib.hid hn
    clear hn
    have e1 : (m : Int) / (n : Int) = ((m / n : Nat) : Int) := (Int.natCast_ediv m n).symm
    have e2 : (m : Int) % (n : Int) = ((m % n : Nat) : Int) := (Int.natCast_emod m n).symm
    have b1 : m / n ≤ m := Nat.div_le_self m n
    have b2 : m % n < n := Nat.mod_lt m hp
    generalize m / n = q at *
    generalize m % n = s at *
    have h0' : 0 < m := by omega
    clear h0
    go_enter Try.func21, Try.ntmps21
    go_wp2
    go_loop [8, 23] (fun s i => ∃ j : Nat, j ≤ n ∧ i = .int .i64 j ∧ s = .int .i64 (F j : Nat)) (fun _ i => (n - intOf i).toNat)
    case atStart => exact ⟨0, Nat.zero_le _, rfl, by rw [Z.out]; rfl⟩
    case round =>
      obtain ⟨j, hj, rfl, rfl⟩ := hrel
      by_cases hlt : j < n
      · have hcell := R.out j (by omega)
        have h1 := L.out j (by omega)
        have h2 := S.out j
        have h3 := L.out (j + 1) (by omega)
        by_cases he : own T j = p
        · rw [he] at hcell
          rw [if_pos he] at h2
          by_cases hl : j < s
          · have h4 := Lib.hid (show F (j + 1) = F j + q + 1 by rw [h2, if_pos hl]; omega)
            have h5 : F j + q + 1 ≤ m := by rw [← h4.out]; exact h3
            clear he h2 h3
            go_wp2
            go_round
            case rel => exact ⟨j + 1, by omega, by go_num, by rw [h4.out]; go_num⟩
            case measure => simp [intOf]; omega
          · have h4 := Lib.hid (show F (j + 1) = F j + q by rw [h2, if_neg hl]; omega)
            have h5 : F j + q ≤ m := by rw [← h4.out]; exact h3
            clear he h2 h3
            go_wp2
            go_round
            case rel => exact ⟨j + 1, by omega, by go_num, by rw [h4.out]; go_num⟩
            case measure => simp [intOf]; omega
        · have h4 := Lib.hid (show F (j + 1) = F j by rw [h2, if_neg he]; rfl)
          clear h2 h3
          generalize own T j = v at *
          have he2 : (v == p) = false := by simpa using he
          go_wp2
          go_round
          case rel => exact ⟨j + 1, by omega, by go_num, by rw [h4.out]⟩
          case measure => simp [intOf]; omega
      · obtain rfl : j = n := by omega
        go_wp2
        go_ret
        exact ⟨by rw [← E.out]; rfl, rfl⟩
end
end Go.Proofs.Ytnfcjfjkioodbaa.Slots
