/- The walks of package slots (layer 3): the reference's Gap, Nth of both. -/
import Derived.Test.YtnfcjfjkioodbaaSlotsY
namespace Go.Proofs.Ytnfcjfjkioodbaa.Slots
open Go.RowKit Go.Fb Go.SlotsP
set_option linter.unusedVariables false
section
variable {w : World} {lo b r o c : Nat} {T : List Int}
theorem rcq (h : At w lo b r o c T) (p : Int) (m g : Nat) (hm : m ≤ 128) (hg : g ≤ 128) : Calls Try.prog 16 #[.pointer (some ⟨b, 0, none⟩), .int .i64 p, .int .i64 m, .int .i64 ((m : Int) + (g : Int))] w fun e w' => e = .returned (.int .i64 (cw (mine T p) m g : Nat)) ∧ ∃ q, w' = w.drewN q := by
  rw [← count_nat]
  exact rcount_any h p m _ (by omega) (by omega)
set_option maxHeartbeats 1000000 in
theorem rgap_any (h : At w lo b r o c T) (p : Int) : Calls Try.prog 14 #[.pointer (some ⟨b, 0, none⟩), .int .i64 p] w fun e w' => e = .returned (.int .i64 (gap T p : Nat)) ∧ ∃ q, w' = w.drewN q := by
  have hin := in_any h p T.length (Nat.le_refl _)
  by_cases hm : p ∈ T
  · have E := Lib.hid (show gap T p = gapTo (mine T p) T.length T.length from if_pos hm)
    have hcp := cnt_pos.2 hm
    have A := Lib.hid (fun g => allB_iff (f := mine T p) (SlotsP.mine_per T p) (some_iff.2 hm) g T.length)
    have S := Lib.hid (show ∀ g m, allB (mine T p) g (m + 1) = (allB (mine T p) g m && decide (0 < cw (mine T p) m g)) from fun g m => rfl)
    have hB := gapTo_le (f := mine T p) (SlotsP.mine_per T p) (some_iff.2 hm) T.length
    have hG : 1 ≤ gapTo (mine T p) T.length T.length := by
      obtain ⟨d, e, _⟩ := dist_at (f := mine T p) (SlotsP.mine_per T p) (some_iff.2 hm) 0
      have := gap_ge (f := mine T p) (SlotsP.mine_per T p) h.pos 0
      omega
    have Z := Lib.hid (show ∀ g, allB (mine T p) g 0 = true from fun g => rfl)
    have C := Lib.hid (fun q m g hm hg => rcq (h.drewN q) p m g hm hg)
    have hc := h.cell
    have hb := h.cap
    have hx := h.capm
    have hk := h.len
    have hp := h.pos
    generalize cw (mine T p) 0 T.length = cnt at *
    have hcnt : ((cnt : Int) == 0) = false := by simp; omega
    have hcle : 0 < (cnt : Int) := by omega
    have H := Lib.hid h
    have HM := Lib.hid hm
    have HIN := Lib.hid hin
    clear h hm hin
    generalize gapTo (mine T p) T.length T.length = G at *
    generalize allB (mine T p) = al at *
    generalize cw (mine T p) = f at *
    generalize T.length = n at *
    go_enter Try.func14, Try.ntmps14
    go_wp2_with (refine HIN.out.mono ?_; rintro e w' ⟨rfl, rfl⟩)
    go_loopg [5] (n + 1) (fun gh s5 wr => ∃ g q : Nat, 1 ≤ g ∧ g ≤ G ∧ n + 1 - g ≤ gh ∧ s5 = .int .i64 g ∧ wr = w.drewN q)
    case atStart => exact ⟨1, 0, Nat.le_refl _, hG, by omega, rfl, rfl⟩
    case round =>
      obtain ⟨g, q, hg1, hg2, hgh, rfl, rfl⟩ := hrel
      go_wp2_with fail
      go_loopg [6, 7] n (fun gh s6 s7 wr => ∃ m q : Nat, m ≤ n ∧ n - m ≤ gh ∧ s7 = .int .i64 m ∧ s6 = .bool (al g m) ∧ wr = w.drewN q)
      case atStart => exact ⟨0, q, Nat.zero_le _, by omega, rfl, by rw [Z.out], rfl⟩
      case round =>
        obtain ⟨m, q2, hmn, hgh2, rfl, rfl, rfl⟩ := hrel
        by_cases hlt : m < n
        · have hC := Lib.hid (C.out q2 m g (by omega) (by omega))
          have HS_ := Lib.hid (S.out g m)
          generalize f m g = x at *
          generalize al g m = a0 at *
          cases a0
          all_goals
            go_wp2_with ((with_reducible refine hC.out.mono ?_); rintro e w' ⟨rfl, q3, rfl⟩)
            go_roundg (n - (m + 1))
            case measure => omega
            case rel => exact ⟨m + 1, q2 + q3, by omega, by omega, by go_num, by rw [HS_.out]; simp, rfl⟩
        · obtain rfl : m = n := by omega
          have hA := A.out g
          generalize al g m = a0 at *
          cases a0 with
          | true =>
            have hGg := Lib.hid (show G = g from Nat.le_antisymm (hA.1 rfl) hg2)
            clear hA
            go_wp2_with fail
            go_ret
            exact ⟨by rw [E.out, hGg.out]; rfl, _, rfl⟩
          | false =>
            have hGg : ¬ G ≤ g := fun h => by have := hA.2 h; cases this
            clear hA
            go_wp2_with fail
            go_roundg (m - g)
            case measure => omega
            case rel => exact ⟨g + 1, q2, by omega, by omega, by omega, by go_num, rfl⟩
  · have E := Lib.hid (show gap T p = 0 from if_neg hm)
    have hc0 : cw (mine T p) 0 T.length = 0 := by
      rcases Nat.eq_zero_or_pos (cw (mine T p) 0 T.length) with h | h
      · exact h
      · exact absurd (cnt_pos.1 h) hm
    rw [hc0] at hin
    have hc := h.cell
    have hb := h.cap
    have hx := h.capm
    have H := Lib.hid h
    have HM := Lib.hid hm
    have HIN := Lib.hid hin
    clear h hm hin
    clear hc0
    generalize T.length = n at *
    go_enter Try.func14, Try.ntmps14
    go_wp2_with (refine HIN.out.mono ?_; rintro e w' ⟨rfl, rfl⟩)
    go_ret
    exact ⟨by rw [E.out]; rfl, 0, rfl⟩
theorem ret_pair {x : Int × Int} {a b : Int} (h : x = (a, b)) : Ending.returned (.tuple #[.int .i64 a, .int .i64 b]) = .returned (.tuple #[.int .i64 x.1, .int .i64 x.2]) := by rw [h]
/-- What a search knows: so far i ticks from t0 on were looked at. -/
structure Seek (f : Nat → Bool) (n t0 L i l : Nat) : Prop where
  le : i ≤ n
  eq : seek f t0 L n = seek f (t0 + i) l (n - i)
  lt : l < cw f (t0 + i) (n - i)
theorem Seek.start {f : Nat → Bool} {n t0 L : Nat} (h : L < cw f t0 n) : Seek f n t0 L 0 L := ⟨Nat.zero_le _, rfl, h⟩
theorem Seek.more {f : Nat → Bool} {n t0 L i l : Nat} (h : Seek f n t0 L i l) : i < n := by
  have := cw_le (f := f) (t0 + i) (n - i)
  have := h.lt
  omega
theorem Seek.hit {f : Nat → Bool} {n t0 L i : Nat} (h : Seek f n t0 L i 0) (hf : f (t0 + i) = true) : seek f t0 L n = t0 + i := by
  have := h.more
  obtain ⟨m, hm⟩ : ∃ m, n - i = m + 1 := ⟨n - i - 1, by omega⟩
  rw [h.eq, hm]
  simp [seek, hf]
theorem Seek.skip {f : Nat → Bool} {n t0 L i l : Nat} (h : Seek f n t0 L i l) (hf : f (t0 + i) = false) : Seek f n t0 L (i + 1) l := by
  have := h.more
  have h1 := h.eq
  have h2 := h.lt
  obtain ⟨m, hm⟩ : ∃ m, n - i = m + 1 := ⟨n - i - 1, by omega⟩
  rw [hm] at h1 h2
  simp only [seek, hf] at h1
  rw [cw_head, hf] at h2
  have e : n - (i + 1) = m := by omega
  exact ⟨by omega, by rw [e]; exact h1, by rw [e, ← Nat.add_assoc]; simpa using h2⟩
theorem Seek.pass {f : Nat → Bool} {n t0 L i l : Nat} (h : Seek f n t0 L i (l + 1)) (hf : f (t0 + i) = true) : Seek f n t0 L (i + 1) l := by
  have := h.more
  have h1 := h.eq
  have h2 := h.lt
  obtain ⟨m, hm⟩ : ∃ m, n - i = m + 1 := ⟨n - i - 1, by omega⟩
  rw [hm] at h1 h2
  simp only [seek, hf] at h1
  rw [cw_head, hf] at h2
  have e : n - (i + 1) = m := by omega
  refine ⟨by omega, by rw [e, ← Nat.add_assoc]; simpa using h1, by rw [e, ← Nat.add_assoc]; simp at h2; omega⟩
theorem nth_arg {p a n : Int} (h0 : a < 0 ∨ n < 0) : nth T p a n = (0, 1) := if_pos h0
theorem nth_no {p a n : Int} (h0 : ¬ (a < 0 ∨ n < 0)) (h1 : ¬ p ∈ T) : nth T p a n = (0, 17) := by unfold nth; rw [if_neg h0, if_pos h1]
theorem nth_far {p a n : Int} (h0 : ¬ (a < 0 ∨ n < 0)) (h1 : p ∈ T) (h2 : 4611686018427387904 < a ∨ 4611686018427387904 < n) : nth T p a n = (0, 2) := by unfold nth; rw [if_neg h0, if_neg (by simpa using h1), if_pos h2]
theorem nth_much {p : Int} {a n : Nat} (h1 : p ∈ T) (h3 : (4611686018427387904 - a) / T.length < n / cw (mine T p) 0 T.length) : nth T p a n = (0, 2) := by
  unfold nth
  rw [if_neg (by omega), if_neg (by simpa using h1)]
  split
  · rfl
  · rw [Int.toNat_natCast, Int.toNat_natCast, if_pos h3]
theorem nth_seek {p : Int} {a n : Nat} (h1 : p ∈ T) (h2 : a ≤ 4611686018427387904) (h3 : ¬ (4611686018427387904 - a) / T.length < n / cw (mine T p) 0 T.length) :
    nth T p a n = if 4611686018427387904 < seek (mine T p) (a + n / cw (mine T p) 0 T.length * T.length) (n % cw (mine T p) 0 T.length) T.length then ((0 : Int), (2 : Int)) else (((seek (mine T p) (a + n / cw (mine T p) 0 T.length * T.length) (n % cw (mine T p) 0 T.length) T.length : Nat) : Int), (0 : Int)) := by
  have hge := seek_ge h1 a n
  unfold nth
  rw [if_neg (by omega), if_neg (by simpa using h1)]
  rw [Int.toNat_natCast, Int.toNat_natCast]
  by_cases h4 : 4611686018427387904 < n
  · rw [if_pos (by omega), if_pos (by omega)]
  · rw [if_neg (by omega), if_neg h3]
theorem ownerq (h : At w lo b r o c T) (t : Nat) : Calls Try.prog 11 #[.pointer (some ⟨b, 0, none⟩), .int .i64 t] w fun e w' => e = .returned (.int .i64 (own T t)) ∧ ∃ q, w' = w.drewN q := by
  have := owner_any h t
  rw [show ownI T t = own T t from if_neg (by omega)] at this
  exact this
theorem rownerq (h : At w lo b r o c T) (t : Nat) : Calls Try.prog 12 #[.pointer (some ⟨b, 0, none⟩), .int .i64 t] w fun e w' => e = .returned (.int .i64 (own T t)) ∧ ∃ q, w' = w.drewN q := by
  have := rowner_any h t
  rw [show ownI T t = own T t from if_neg (by omega)] at this
  exact this
set_option maxHeartbeats 2000000 in
theorem nth_walk (h : At w lo b r o c T) (p : Int) (a n : Nat) (hm : p ∈ T) (ha : a ≤ 4611686018427387904) (hn : n ≤ 4611686018427387904) (h3 : ¬ (4611686018427387904 - a) / T.length < n / cw (mine T p) 0 T.length) :
    Calls Try.prog 9 #[.pointer (some ⟨b, 0, none⟩), .int .i64 p, .int .i64 a, .int .i64 n] w fun e w' => e = .returned (.tuple #[.int .i64 (nth T p a n).1, .int .i64 (nth T p a n).2]) ∧ ∃ q, w' = w.drewN q := by
  have hcon := contains_any h p
  rw [decide_eq_true hm] at hcon
  have hah := ahead_any h p T.length (by have := h.len; omega)
  rw [show aheadT T p (T.length : Int) = (cw (mine T p) 0 T.length : Nat) by unfold aheadT; rw [Int.toNat_natCast]] at hah
  have hcp := cnt_pos.2 hm
  have E := Lib.hid (nth_seek hm ha h3)
  have O := Lib.hid (fun q t => ownerq (h.drewN q) t)
  have M := Lib.hid (show ∀ i, mine T p i = decide (own T i = p) from fun i => rfl)
  have ST := Lib.hid (Seek.start (f := mine T p) (n := T.length) (t0 := a + n / cw (mine T p) 0 T.length * T.length) (L := n % cw (mine T p) 0 T.length) (by rw [cw_full (SlotsP.mine_per T p) (a + n / cw (mine T p) 0 T.length * T.length)]; exact Nat.mod_lt _ hcp))
  have hc := h.cell
  have hb := h.cap
  have hx := h.capm
  have hk := h.len
  have hp := h.pos
  have b1 := Nat.div_le_self n (cw (mine T p) 0 T.length)
  have b2 := Nat.mod_le n (cw (mine T p) 0 T.length)
  have b3 : n / cw (mine T p) 0 T.length * T.length ≤ 4611686018427387904 - a := by
    have := Nat.div_mul_le_self (4611686018427387904 - a) T.length
    exact Nat.le_trans (Nat.mul_le_mul_right _ (by omega)) this
  have b4 := Nat.div_le_self (4611686018427387904 - a) T.length
  have e1 : (n : Int) / ((cw (mine T p) 0 T.length : Nat) : Int) = ((n / cw (mine T p) 0 T.length : Nat) : Int) := (Int.natCast_ediv n _).symm
  have e2 : (n : Int) % ((cw (mine T p) 0 T.length : Nat) : Int) = ((n % cw (mine T p) 0 T.length : Nat) : Int) := (Int.natCast_emod n _).symm
  have e3 : (4611686018427387904 : Int) - (a : Int) = ((4611686018427387904 - a : Nat) : Int) := by omega
  have e4 : ((4611686018427387904 - a : Nat) : Int) / (T.length : Int) = (((4611686018427387904 - a) / T.length : Nat) : Int) := (Int.natCast_ediv _ _).symm
  have e5 : ((n / cw (mine T p) 0 T.length : Nat) : Int) * (T.length : Int) = ((n / cw (mine T p) 0 T.length * T.length : Nat) : Int) := (Int.natCast_mul _ _).symm
  have hcle := cw_le (f := mine T p) 0 T.length
  generalize nth T p a n = res at *
  generalize n / cw (mine T p) 0 T.length * T.length = P at *
  generalize n / cw (mine T p) 0 T.length = R at *
  generalize n % cw (mine T p) 0 T.length = L at *
  generalize (4611686018427387904 - a) / T.length = Q at *
  have hD : 4611686018427387904 - a ≤ 4611686018427387904 := by omega
  have hDa : 4611686018427387904 - a + a = 4611686018427387904 := by omega
  generalize 4611686018427387904 - a = D at *
  generalize cw (mine T p) 0 T.length = cnt at *
  generalize mine T p = f at *
  have H := Lib.hid h
  have HM := Lib.hid hm
  have HCON := Lib.hid hcon
  have HAH := Lib.hid hah
  clear h hm hcon hah
  generalize own T = u at *
  generalize T.length = k at *
  go_enter Try.func9, Try.ntmps9
  go_wp2_with (first | (go_at_call 20; refine HCON.out.mono ?_; rintro e w' ⟨rfl, rfl⟩) | (go_at_call 21; refine HAH.out.mono ?_; rintro e w' ⟨rfl, rfl⟩))
  have ht : a + P ≤ 4611686018427387904 := by omega
  generalize ht0 : a + P = t0 at *
  have HT0 := Lib.hid ht0
  clear ht0
  have E2 := Lib.hid e2
  clear e1 e2 e3 e4 e5
  go_loopg [13, 14] k (fun g s13 s14 wr => ∃ s i l q : Nat, s = t0 + i ∧ Seek f k t0 L i l ∧ k - i ≤ g ∧ s13 = .int .i64 s ∧ s14 = .int .i64 l ∧ wr = w.drewN q)
  case atStart => exact ⟨t0, 0, L, 0, rfl, ST.out, by omega, int_eq (by have := HT0.out; omega), int_eq E2.out, rfl⟩
  case round =>
    obtain ⟨s, i, l, q, hs, hsk, hg, rfl, rfl, rfl⟩ := hrel
    have him := hsk.more
    have hll : l ≤ 64 := by have := hsk.lt; have := cw_le (f := f) (t0 + i) (k - i); omega
    have hO := Lib.hid (O.out q s)
    have hM := M.out s
    have hsb : s ≤ 4611686018427387904 + 64 := by omega
    by_cases hu : u s = p
    · have hf : f (t0 + i) = true := by rw [← hs, hM]; simpa using hu
      rw [hu] at hO
      cases l with
      | zero =>
        have hres := E.out
        rw [hsk.hit hf, ← hs] at hres
        by_cases hfar : 4611686018427387904 < s
        · rw [if_pos hfar] at hres
          have HRES := Lib.hid hres
          have HS := Lib.hid hs
          have HSK := Lib.hid hsk
          have HF := Lib.hid hf
          have HMM_ := Lib.hid hM
          clear hres hs hsk hf hM
          clear hu
          go_wp2_with ((with_reducible refine hO.out.mono ?_); rintro e w' ⟨rfl, q2, rfl⟩)
          go_ret2
          exact ⟨by rw [HRES.out]; rfl, _, rfl⟩
        · rw [if_neg hfar] at hres
          have HRES := Lib.hid hres
          have HS := Lib.hid hs
          have HSK := Lib.hid hsk
          have HF := Lib.hid hf
          have HMM_ := Lib.hid hM
          clear hres hs hsk hf hM
          clear hu
          go_wp2_with ((with_reducible refine hO.out.mono ?_); rintro e w' ⟨rfl, q2, rfl⟩)
          go_ret2
          exact ⟨by rw [HRES.out]; rfl, _, rfl⟩
      | succ l =>
        have hsk2 := hsk.pass hf
        have HS := Lib.hid hs
        have HSK := Lib.hid hsk
        have HF := Lib.hid hf
        have HMM_ := Lib.hid hM
        have HSK2 := Lib.hid hsk2
        clear hs hsk hf hM hsk2
        clear hu
        go_wp2_with ((with_reducible refine hO.out.mono ?_); rintro e w' ⟨rfl, q2, rfl⟩)
        go_roundg (k - (i + 1))
        case measure => omega
        case rel => exact ⟨s + 1, i + 1, l, _, by have := HS.out; omega, HSK2.out, by omega, by go_num, int_eq (by omega), rfl⟩
    · have hf : f (t0 + i) = false := by rw [← hs, hM]; simpa using hu
      have hsk2 := hsk.skip hf
      generalize u s = v at *
      have hv : (v != p) = true := by simpa using hu
      have hv2 : (v == p) = false := by simpa using hu
      have HS := Lib.hid hs
      have HSK := Lib.hid hsk
      have HF := Lib.hid hf
      have HMM_ := Lib.hid hM
      have HSK2 := Lib.hid hsk2
      clear hs hsk hf hM hsk2
      clear hu
      go_wp2_with ((with_reducible refine hO.out.mono ?_); rintro e w' ⟨rfl, q2, rfl⟩)
      go_roundg (k - (i + 1))
      case measure => omega
      case rel => exact ⟨s + 1, i + 1, l, _, by have := HS.out; omega, HSK2.out, by omega, by go_num, rfl, rfl⟩
set_option maxHeartbeats 2000000 in
theorem nth_any (h : At w lo b r o c T) (p a n : Int) (ha : a ≤ 9223372036854775807) (hn : n ≤ 9223372036854775807) :
    Calls Try.prog 9 #[.pointer (some ⟨b, 0, none⟩), .int .i64 p, .int .i64 a, .int .i64 n] w fun e w' => e = .returned (.tuple #[.int .i64 (nth T p a n).1, .int .i64 (nth T p a n).2]) ∧ ∃ q, w' = w.drewN q := by
  have hcon := contains_any h p
  have hc := h.cell
  have hb := h.cap
  have hx := h.capm
  have hk := h.len
  have hp := h.pos
  by_cases h0 : a < 0 ∨ n < 0
  · have E := Lib.hid (nth_arg (T := T) (p := p) h0)
    have H := Lib.hid h
    have HCON := Lib.hid hcon
    clear h hcon
    generalize T.length = k at *
    rcases h0 with h0 | h0
    all_goals
      go_enter Try.func9, Try.ntmps9
      go_wp2_with fail
      all_goals (go_ret2; exact ⟨by rw [E.out]; rfl, 0, rfl⟩)
  obtain ⟨a, rfl⟩ : ∃ m : Nat, a = m := ⟨a.toNat, by omega⟩
  obtain ⟨n, rfl⟩ : ∃ m : Nat, n = m := ⟨n.toNat, by omega⟩
  by_cases hm : p ∈ T
  · rw [decide_eq_true hm] at hcon
    by_cases h2 : 4611686018427387904 < a ∨ 4611686018427387904 < n
    · have E := Lib.hid (nth_far (T := T) (p := p) h0 hm (by omega))
      have H := Lib.hid h
      have HCON := Lib.hid hcon
      have HM := Lib.hid hm
      clear h hcon hm
      clear h0
      generalize T.length = k at *
      have g1 : (0 : Int) ≤ (a : Int) := by omega
      have g2 : (0 : Int) ≤ (n : Int) := by omega
      rcases h2 with h2 | h2
      all_goals
        go_enter Try.func9, Try.ntmps9
        go_wp2_with (refine HCON.out.mono ?_; rintro e w' ⟨rfl, rfl⟩)
        all_goals (go_ret2; exact ⟨by rw [E.out]; rfl, 0, rfl⟩)
    · by_cases h3 : (4611686018427387904 - a) / T.length < n / cw (mine T p) 0 T.length
      · have E := Lib.hid (nth_much hm h3)
        have hah := ahead_any h p T.length (by have := h.len; omega)
        rw [show aheadT T p (T.length : Int) = (cw (mine T p) 0 T.length : Nat) by unfold aheadT; rw [Int.toNat_natCast]] at hah
        have hcp := cnt_pos.2 hm
        have e1 : (n : Int) / ((cw (mine T p) 0 T.length : Nat) : Int) = ((n / cw (mine T p) 0 T.length : Nat) : Int) := (Int.natCast_ediv n _).symm
        have e3 : (4611686018427387904 : Int) - (a : Int) = ((4611686018427387904 - a : Nat) : Int) := by omega
        have e4 : ((4611686018427387904 - a : Nat) : Int) / (T.length : Int) = (((4611686018427387904 - a) / T.length : Nat) : Int) := (Int.natCast_ediv _ _).symm
        have hcle := cw_le (f := mine T p) 0 T.length
        have b1 := Nat.div_le_self n (cw (mine T p) 0 T.length)
        have b4 := Nat.div_le_self (4611686018427387904 - a) T.length
        generalize nth T p a n = res at *
        generalize n / cw (mine T p) 0 T.length = R at *
        generalize (4611686018427387904 - a) / T.length = Q at *
        have hD : 4611686018427387904 - a ≤ 4611686018427387904 := by omega
        have g3 : (a : Int) ≤ 4611686018427387904 := by omega
        have g4 : (n : Int) ≤ 4611686018427387904 := by omega
        generalize 4611686018427387904 - a = D at *
        generalize cw (mine T p) 0 T.length = cnt at *
        have H := Lib.hid h
        have HCON := Lib.hid hcon
        have HM := Lib.hid hm
        have HAH := Lib.hid hah
        clear h hcon hm hah
        generalize T.length = k at *
        have g1 : (0 : Int) ≤ (a : Int) := by omega
        have g2 : (0 : Int) ≤ (n : Int) := by omega
        clear h0 h2 ha hn
        go_enter Try.func9, Try.ntmps9
        go_wp2_with (first | (go_at_call 20; refine HCON.out.mono ?_; rintro e w' ⟨rfl, rfl⟩) | (go_at_call 21; refine HAH.out.mono ?_; rintro e w' ⟨rfl, rfl⟩))
        all_goals (go_ret2; exact ⟨by rw [E.out]; rfl, 0, rfl⟩)
      · exact nth_walk h p a n hm (by omega) (by omega) h3
  · rw [decide_eq_false hm] at hcon
    have E := Lib.hid (nth_no h0 hm)
    have H := Lib.hid h
    have HCON := Lib.hid hcon
    have HM := Lib.hid hm
    clear h hcon hm
    clear h0
    generalize T.length = k at *
    have g1 : (0 : Int) ≤ (a : Int) := by omega
    have g2 : (0 : Int) ≤ (n : Int) := by omega
    go_enter Try.func9, Try.ntmps9
    go_wp2_with (refine HCON.out.mono ?_; rintro e w' ⟨rfl, rfl⟩)
    all_goals (go_ret2; exact ⟨by rw [E.out]; rfl, 0, rfl⟩)
set_option maxHeartbeats 2000000 in
theorem rnth_walk (h : At w lo b r o c T) (p : Int) (a n : Nat) (hm : p ∈ T) (ha : a ≤ 4611686018427387904) (hn : n ≤ 9223372036854775807) (h3 : ¬ (4611686018427387904 - a) / T.length < n / cw (mine T p) 0 T.length) :
    Calls Try.prog 10 #[.pointer (some ⟨b, 0, none⟩), .int .i64 p, .int .i64 a, .int .i64 n] w fun e w' => e = .returned (.tuple #[.int .i64 (nth T p a n).1, .int .i64 (nth T p a n).2]) ∧ ∃ q, w' = w.drewN q := by
  have hin := in_any h p T.length (Nat.le_refl _)
  have hcp := cnt_pos.2 hm
  have E := Lib.hid (nth_seek hm ha h3)
  have O := Lib.hid (fun q t => rownerq (h.drewN q) t)
  have M := Lib.hid (show ∀ i, mine T p i = decide (own T i = p) from fun i => rfl)
  have ST := Lib.hid (Seek.start (f := mine T p) (n := T.length) (t0 := a + n / cw (mine T p) 0 T.length * T.length) (L := n % cw (mine T p) 0 T.length) (by rw [cw_full (SlotsP.mine_per T p) (a + n / cw (mine T p) 0 T.length * T.length)]; exact Nat.mod_lt _ hcp))
  have hc := h.cell
  have hb := h.cap
  have hx := h.capm
  have hk := h.len
  have hp := h.pos
  have b1 := Nat.div_le_self n (cw (mine T p) 0 T.length)
  have b2 := Nat.mod_lt n hcp
  have b3 : n / cw (mine T p) 0 T.length * T.length ≤ 4611686018427387904 - a := by
    have := Nat.div_mul_le_self (4611686018427387904 - a) T.length
    exact Nat.le_trans (Nat.mul_le_mul_right _ (by omega)) this
  have b4 := Nat.div_le_self (4611686018427387904 - a) T.length
  have e1 : (n : Int) / ((cw (mine T p) 0 T.length : Nat) : Int) = ((n / cw (mine T p) 0 T.length : Nat) : Int) := (Int.natCast_ediv n _).symm
  have e2 : (n : Int) % ((cw (mine T p) 0 T.length : Nat) : Int) = ((n % cw (mine T p) 0 T.length : Nat) : Int) := (Int.natCast_emod n _).symm
  have e3 : (4611686018427387904 : Int) - (a : Int) = ((4611686018427387904 - a : Nat) : Int) := by omega
  have e4 : ((4611686018427387904 - a : Nat) : Int) / (T.length : Int) = (((4611686018427387904 - a) / T.length : Nat) : Int) := (Int.natCast_ediv _ _).symm
  have e5 : ((n / cw (mine T p) 0 T.length : Nat) : Int) * (T.length : Int) = ((n / cw (mine T p) 0 T.length * T.length : Nat) : Int) := (Int.natCast_mul _ _).symm
  have hcle := cw_le (f := mine T p) 0 T.length
  generalize nth T p a n = res at *
  generalize n / cw (mine T p) 0 T.length * T.length = P at *
  generalize n / cw (mine T p) 0 T.length = R at *
  generalize n % cw (mine T p) 0 T.length = L at *
  generalize (4611686018427387904 - a) / T.length = Q at *
  have hD : 4611686018427387904 - a ≤ 4611686018427387904 := by omega
  have hDa : 4611686018427387904 - a + a = 4611686018427387904 := by omega
  generalize 4611686018427387904 - a = D at *
  generalize cw (mine T p) 0 T.length = cnt at *
  generalize mine T p = f at *
  have hcnt : ((cnt : Int) == 0) = false := by simp; omega
  have H := Lib.hid h
  have HM := Lib.hid hm
  have HIN := Lib.hid hin
  clear h hm hin
  generalize own T = u at *
  generalize T.length = k at *
  go_enter Try.func10, Try.ntmps10
  go_wp2_with (refine HIN.out.mono ?_; rintro e w' ⟨rfl, rfl⟩)
  have dg : decide (4611686018427387904 < (a : Int)) = false := decide_eq_false (by omega)
  have wR : IntKind.i64.wrap (R : Int) = R := IntWalk.i64_in _ (by omega)
  have wQ : IntKind.i64.wrap (Q : Int) = Q := IntWalk.i64_in _ (by omega)
  have wD : IntKind.i64.wrap (D : Int) = D := IntWalk.i64_in _ (by omega)
  have wP : IntKind.i64.wrap (P : Int) = P := IntWalk.i64_in _ (by omega)
  have wA : IntKind.i64.wrap ((a : Int) + (P : Int)) = (a : Int) + (P : Int) := IntWalk.i64_in _ (by omega)
  go_quiet (fail)
  go_wp2_with fail
  go_quiet (fail)
  go_wp2_with fail
  have ht : a + P ≤ 4611686018427387904 := by omega
  generalize ht0 : a + P = t0 at *
  have HT0 := Lib.hid ht0
  clear ht0
  have E2 := Lib.hid e2
  clear e1 e2 e3 e4 e5
  clear wR wQ wD wP wA
  go_loopg [11, 12] k (fun g s13 s14 wr => ∃ s i l q : Nat, s = t0 + i ∧ Seek f k t0 L i l ∧ k - i ≤ g ∧ s13 = .int .i64 s ∧ s14 = .int .i64 l ∧ wr = w.drewN q)
  case atStart => exact ⟨t0, 0, L, _, rfl, ST.out, by omega, int_eq (by have := HT0.out; omega), int_eq E2.out, rfl⟩
  case round =>
    obtain ⟨s, i, l, q, hs, hsk, hg, rfl, rfl, rfl⟩ := hrel
    have him := hsk.more
    have hll : l ≤ 64 := by have := hsk.lt; have := cw_le (f := f) (t0 + i) (k - i); omega
    have hO := Lib.hid (O.out q s)
    have hM := M.out s
    have hsb : s ≤ 4611686018427387904 + 64 := by omega
    by_cases hu : u s = p
    · have hf : f (t0 + i) = true := by rw [← hs, hM]; simpa using hu
      rw [hu] at hO
      cases l with
      | zero =>
        have hres := E.out
        rw [hsk.hit hf, ← hs] at hres
        by_cases hfar : 4611686018427387904 < s
        · rw [if_pos hfar] at hres
          have HRES := Lib.hid hres
          have HS := Lib.hid hs
          have HSK := Lib.hid hsk
          have HF := Lib.hid hf
          have HMM_ := Lib.hid hM
          clear hres hs hsk hf hM
          clear hu
          go_wp2_with ((with_reducible refine hO.out.mono ?_); rintro e w' ⟨rfl, q2, rfl⟩)
          go_ret2
          exact ⟨by rw [HRES.out]; rfl, _, rfl⟩
        · rw [if_neg hfar] at hres
          have HRES := Lib.hid hres
          have HS := Lib.hid hs
          have HSK := Lib.hid hsk
          have HF := Lib.hid hf
          have HMM_ := Lib.hid hM
          clear hres hs hsk hf hM
          clear hu
          go_wp2_with ((with_reducible refine hO.out.mono ?_); rintro e w' ⟨rfl, q2, rfl⟩)
          go_ret2
          exact ⟨by rw [HRES.out]; rfl, _, rfl⟩
      | succ l =>
        have hsk2 := hsk.pass hf
        have HS := Lib.hid hs
        have HSK := Lib.hid hsk
        have HF := Lib.hid hf
        have HMM_ := Lib.hid hM
        have HSK2 := Lib.hid hsk2
        clear hs hsk hf hM hsk2
        clear hu
        go_wp2_with ((with_reducible refine hO.out.mono ?_); rintro e w' ⟨rfl, q2, rfl⟩)
        go_roundg (k - (i + 1))
        case measure => omega
        case rel => exact ⟨s + 1, i + 1, l, _, by have := HS.out; omega, HSK2.out, by omega, by go_num, int_eq (by omega), rfl⟩
    · have hf : f (t0 + i) = false := by rw [← hs, hM]; simpa using hu
      have hsk2 := hsk.skip hf
      generalize u s = v at *
      have hv2 : (v == p) = false := by simpa using hu
      have HS := Lib.hid hs
      have HSK := Lib.hid hsk
      have HF := Lib.hid hf
      have HMM_ := Lib.hid hM
      have HSK2 := Lib.hid hsk2
      clear hs hsk hf hM hsk2
      clear hu
      go_wp2_with ((with_reducible refine hO.out.mono ?_); rintro e w' ⟨rfl, q2, rfl⟩)
      go_roundg (k - (i + 1))
      case measure => omega
      case rel => exact ⟨s + 1, i + 1, l, _, by have := HS.out; omega, HSK2.out, by omega, by go_num, rfl, rfl⟩
set_option maxHeartbeats 2000000 in
theorem rnth_any (h : At w lo b r o c T) (p a n : Int) (ha : a ≤ 9223372036854775807) (hn : n ≤ 9223372036854775807) :
    Calls Try.prog 10 #[.pointer (some ⟨b, 0, none⟩), .int .i64 p, .int .i64 a, .int .i64 n] w fun e w' => e = .returned (.tuple #[.int .i64 (nth T p a n).1, .int .i64 (nth T p a n).2]) ∧ ∃ q, w' = w.drewN q := by
  have hin := in_any h p T.length (Nat.le_refl _)
  have hc := h.cell
  have hb := h.cap
  have hx := h.capm
  have hk := h.len
  have hp := h.pos
  by_cases h0 : a < 0 ∨ n < 0
  · have E := Lib.hid (nth_arg (T := T) (p := p) h0)
    generalize cw (mine T p) 0 T.length = cnt at *
    have H := Lib.hid h
    have HIN := Lib.hid hin
    clear h hin
    generalize T.length = k at *
    rcases h0 with h0 | h0
    all_goals
      go_enter Try.func10, Try.ntmps10
      go_wp2_with fail
      all_goals (go_ret2; exact ⟨by rw [E.out]; rfl, 0, rfl⟩)
  obtain ⟨a, rfl⟩ : ∃ m : Nat, a = m := ⟨a.toNat, by omega⟩
  obtain ⟨n, rfl⟩ : ∃ m : Nat, n = m := ⟨n.toNat, by omega⟩
  by_cases hm : p ∈ T
  · have hcp := cnt_pos.2 hm
    by_cases h2 : 4611686018427387904 < a
    · have E := Lib.hid (nth_far (T := T) (p := p) h0 hm (by omega))
      generalize cw (mine T p) 0 T.length = cnt at *
      have H := Lib.hid h
      have HIN := Lib.hid hin
      have HM := Lib.hid hm
      clear h hin hm
      clear h0
      generalize T.length = k at *
      have g1 : (0 : Int) ≤ (a : Int) := by omega
      have g2 : (0 : Int) ≤ (n : Int) := by omega
      have g3 : decide (4611686018427387904 < (a : Int)) = true := decide_eq_true (by omega)
      go_enter Try.func10, Try.ntmps10
      go_wp2_with (refine HIN.out.mono ?_; rintro e w' ⟨rfl, rfl⟩)
      go_quiet (fail)
      go_wp2_with fail
      all_goals (go_ret2; exact ⟨by rw [E.out]; rfl, _, rfl⟩)
    · by_cases h3 : (4611686018427387904 - a) / T.length < n / cw (mine T p) 0 T.length
      · have E := Lib.hid (nth_much hm h3)
        have e1 : (n : Int) / ((cw (mine T p) 0 T.length : Nat) : Int) = ((n / cw (mine T p) 0 T.length : Nat) : Int) := (Int.natCast_ediv n _).symm
        have e3 : (4611686018427387904 : Int) - (a : Int) = ((4611686018427387904 - a : Nat) : Int) := by omega
        have e4 : ((4611686018427387904 - a : Nat) : Int) / (T.length : Int) = (((4611686018427387904 - a) / T.length : Nat) : Int) := (Int.natCast_ediv _ _).symm
        have hcle := cw_le (f := mine T p) 0 T.length
        have b1 := Nat.div_le_self n (cw (mine T p) 0 T.length)
        have b4 := Nat.div_le_self (4611686018427387904 - a) T.length
        generalize nth T p a n = res at *
        generalize n / cw (mine T p) 0 T.length = R at *
        generalize (4611686018427387904 - a) / T.length = Q at *
        have hD : 4611686018427387904 - a ≤ 4611686018427387904 := by omega
        have g3 : (a : Int) ≤ 4611686018427387904 := by omega
        generalize 4611686018427387904 - a = D at *
        generalize cw (mine T p) 0 T.length = cnt at *
        have H := Lib.hid h
        have HIN := Lib.hid hin
        have HM := Lib.hid hm
        clear h hin hm
        generalize T.length = k at *
        have g1 : (0 : Int) ≤ (a : Int) := by omega
        have g2 : (0 : Int) ≤ (n : Int) := by omega
        have dg : decide (4611686018427387904 < (a : Int)) = false := decide_eq_false (by omega)
        have wR : IntKind.i64.wrap (R : Int) = R := IntWalk.i64_in _ (by omega)
        have wQ : IntKind.i64.wrap (Q : Int) = Q := IntWalk.i64_in _ (by omega)
        have wD : IntKind.i64.wrap (D : Int) = D := IntWalk.i64_in _ (by omega)
        clear h0 h2 ha
        go_enter Try.func10, Try.ntmps10
        go_wp2_with (refine HIN.out.mono ?_; rintro e w' ⟨rfl, rfl⟩)
        go_quiet (fail)
        go_wp2_with fail
        all_goals (go_ret2; exact ⟨by rw [E.out]; rfl, _, rfl⟩)
      · exact rnth_walk h p a n hm (by omega) (by omega) h3
  · have E := Lib.hid (nth_no h0 hm)
    have hc0 : cw (mine T p) 0 T.length = 0 := by
      rcases Nat.eq_zero_or_pos (cw (mine T p) 0 T.length) with h | h
      · exact h
      · exact absurd (cnt_pos.1 h) hm
    rw [hc0] at hin
    clear hc0
    have H := Lib.hid h
    have HIN := Lib.hid hin
    have HM := Lib.hid hm
    clear h hin hm
    clear h0
    generalize T.length = k at *
    have g1 : (0 : Int) ≤ (a : Int) := by omega
    have g2 : (0 : Int) ≤ (n : Int) := by omega
    go_enter Try.func10, Try.ntmps10
    go_wp2_with (refine HIN.out.mono ?_; rintro e w' ⟨rfl, rfl⟩)
    all_goals (go_ret2; exact ⟨by rw [E.out]; rfl, 0, rfl⟩)
end
end Go.Proofs.Ytnfcjfjkioodbaa.Slots
