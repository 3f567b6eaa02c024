/- The walk of SlotsGoRound. -/
import Derived.Test.YtnfcjfjkioodbaaSlotsA
namespace Go.Proofs.Ytnfcjfjkioodbaa.Slots
open Go.RowKit Go.Fb Go.SlotsP
set_option linter.unusedVariables false
theorem quiet2 {P : Program} {f : FuncId} {args : Array Value} {w : World} {a n : Nat} {v : Value} (h : Calls P f args (w.drewN (a + n)) fun e w' => e = .returned v ∧ ∃ m, w' = (w.drewN (a + n)).drewN m) :
    Calls P f args (w.drewN (a + n)) fun e w'' => e = .returned v ∧ ∃ m, w'' = w.drewN (a + m) := h.mono fun _ _ ⟨he, m, hm⟩ => ⟨he, n + m, by rw [hm, World.drewN_drewN, Nat.add_assoc]⟩
theorem cnat {w : World} {lo b r o c : Nat} {T : List Int} (h : At w lo b r o c T) (p : Int) (a s : Nat) (has : a ≤ s) (hs : s ≤ 9223372036854775807) : Calls Try.prog 15 #[.pointer (some ⟨b, 0, none⟩), .int .i64 p, .int .i64 a, .int .i64 s] w fun e w' => e = .returned (.int .i64 (cw (mine T p) a (s - a) : Nat)) ∧ ∃ q, w' = w.drewN q := by
  have := count_nat T p a (s - a)
  rw [show (a : Int) + ((s - a : Nat) : Int) = (s : Int) by omega] at this
  rw [← this]
  exact count_any h p a s (by omega) (by omega)
theorem nthv {w : World} {lo b r o c : Nat} {T : List Int} (h : At w lo b r o c T) (p : Int) (a n : Nat) (v e0 : Int) (ha : a ≤ 9223372036854775807) (hn : n ≤ 9223372036854775807) (hv : nth T p a n = (v, e0)) :
    Calls Try.prog 9 #[.pointer (some ⟨b, 0, none⟩), .int .i64 p, .int .i64 a, .int .i64 n] w fun e w' => e = .returned (.tuple #[.int .i64 v, .int .i64 e0]) ∧ ∃ q, w' = w.drewN q := by
  have := nth_any h p a n (by omega) (by omega)
  rw [hv] at this
  exact this
theorem nth0 {w : World} {lo b r o c : Nat} {T : List Int} (h : At w lo b r o c T) (p : Int) (a : Nat) (ha : a ≤ 9223372036854775807) (hp : ¬ p ∈ T) :
    Calls Try.prog 9 #[.pointer (some ⟨b, 0, none⟩), .int .i64 p, .int .i64 a, .int .i64 0] w fun e w' => e = .returned (.tuple #[.int .i64 0, .int .i64 17]) ∧ ∃ q, w' = w.drewN q :=
  nthv h p a 0 0 17 ha (by omega) (nth_no (by omega) hp)
/-- Where the round begins. -/
def start (x : Int) : Nat := (if x < 0 then -(x + 1) else x).toNat % 1152921504606846976
/-- What the round knows behind j ticks. -/
theorem gap_zero {T : List Int} {p : Int} (hk : 0 < T.length) (h : gap T p = 0) : ¬ p ∈ T := by
  intro hp
  unfold gap at h
  rw [if_pos hp] at h
  obtain ⟨d, e, _⟩ := dist_at (f := mine T p) (SlotsP.mine_per T p) (some_iff.2 hp) 0
  have := gap_ge (f := mine T p) (SlotsP.mine_per T p) hk 0
  omega
set_option maxRecDepth 100000 in
set_option maxHeartbeats 4000000 in
theorem round_walk (A : Option Addr) (n c : Nat) (T : List Int) (parts p x : Int) (w : World) (hl : SliceOf (Rep.int .i64) w w.heap.size A n c T) (hx : -9223372036854775808 ≤ x ∧ x ≤ 9223372036854775807) :
    Calls Try.prog 4 #[.slice A n c, .int .i64 parts, .int .i64 p, .int .i64 x] w fun e w' => e = .returned (.bool true) ∧ New w w' := by
  have hb := hl.bound
  have hfix := fixed_any w
  by_cases hn : n ≤ 1048576
  · have hlong := fun W => long_no A n c W hb hn
    have hwf := hl.wf
    have HL := Lib.hid hl
    have HFIX := Lib.hid hfix
    have HLONG := Lib.hid hlong
    have HWF := Lib.hid hwf
    clear hl hfix hlong hwf
    go_enter Try.func4, Try.ntmps4
    go_wp2_with fail
    refine HFIX.out.mono ?_
    rintro e w1 ⟨rfl, hw1⟩
    have hl1 := (HL.out.kept hw1 (Nat.le_refl _) fun _ _ h => h).more hw1.size
    have hsrc := ints_src (hl1.alloc (Nat.le_refl _) (.cells #[] 3))
    have hrow0 : Row (w1.alloc (.cells #[] 3)) 1 none (some ⟨w1.heap.size, 0, none⟩) 0 0 [] := ⟨rfl, .inl ⟨rfl, rfl, rfl⟩⟩
    have hl1T := hl1.len
    have HW1 := Lib.hid hw1
    have HL1 := Lib.hid hl1
    have HSRC := Lib.hid hsrc
    have HROW0 := Lib.hid hrow0
    have HL1T := Lib.hid hl1T
    clear hw1 hl1 hsrc hrow0 hl1T
    go_wp2_with (first | (go_at_call 7; refine (HLONG.out _).mono ?_; rintro e w' ⟨rfl, rfl⟩) | (at_builtin; refine wpList_append_row tyInts rfl (.tmp 29) (.tmp 30) rfl rfl HROW0.out rfl HSRC.out (by unfold maxLen; omega) (by omega) ?_; intro r2 A2 c2 w2 hr2 hk2 hn2; rw [Nat.zero_add, List.nil_append] at hr2; have HR2 := Lib.hid hr2; have HK2 := Lib.hid hk2; clear hr2 hk2 hn2))
    have hw12 : New w1 w2 := ((Kept.refl _ _).alloc _).step HK2.out fun i hi e => by cases e
    have hw2 : New w w2 := HW1.out.trans hw12
    have hnew := new_any _ _ _ T parts w2 (ints_read HR2.out HWF.out)
    have HW2 := Lib.hid hw2
    have HW12 := Lib.hid hw12
    clear hw2 hw12
    refine hnew.mono ?_
    clear hnew
    rintro e w3 ⟨hw3, ⟨hE, b, r, o, c', rfl, hA⟩ | ⟨hE, rfl⟩⟩
    · obtain ⟨p1, p2, p3, p4, p5⟩ := newE_ok hE
      have hn3 := HW2.out.trans hw3
      have hn0 : 0 < n := by have := HL1T.out; omega
      obtain ⟨b0, o0, rfl, hb0, hc0⟩ := HL1.out.ints hn0
      have hcell : ∀ i, w3.cell? ⟨b0, o0 + i % n, none⟩ = some (.int .i64 (own T i)) := fun i => by
        have hT := HL1T.out
        have hi : i % T.length < T.length := Nat.mod_lt _ p3
        have := (hw3.cell (p := ⟨b0, o0 + i % T.length, none⟩) (by have := HW12.out.size; simp only; omega) id).trans ((HW12.out.cell (p := ⟨b0, o0 + i % T.length, none⟩) hb0 id).trans (hc0 _ hi))
        rw [getD_own] at this
        rw [hT]; exact this
      have hn64 : n ≤ 64 := by have := HL1T.out; omega
      have HN3 := Lib.hid hn3
      have HA := Lib.hid hA
      have HE := Lib.hid hE
      have P5 := Lib.hid p5
      have HCELL := Lib.hid hcell
      clear hn3 hA hE p5 hcell
      clear hw3 hc0
      have hg : start x < 1152921504606846976 := Nat.mod_lt _ (by decide)
      have hs1 : x < 0 → -(x + 1).tmod 1152921504606846976 = (start x : Nat) := fun h0 => by
        unfold start
        rw [if_pos h0]
        obtain ⟨m, hm⟩ := Int.eq_ofNat_of_zero_le (show 0 ≤ -(x + 1) by omega)
        rw [← Int.neg_tmod, hm]
        rfl
      have hs2 : 0 ≤ x → x % 1152921504606846976 = (start x : Nat) := fun h0 => by
        unfold start
        rw [if_neg (by omega)]
        obtain ⟨m, rfl⟩ := Int.eq_ofNat_of_zero_le h0
        rfl
      have HG := Lib.hid (gap_any HA.out p)
      have hkT := HL1T.out
      have Q1 := Lib.hid (fun (s : Nat) q => ownerq (HA.out.drewN q) s)
      have Q2 := Lib.hid (fun (s : Nat) (h : start x ≤ s) (h2 : s ≤ 9223372036854775807) q => cnat (HA.out.drewN q) p (start x) s h h2)
      have Q3 := Lib.hid (fun (s : Nat) (h1 : start x ≤ s) (h2 : s < start x + 3 * n) (h3 : mine T p s = true) q => nthv (HA.out.drewN q) p (start x) (cw (mine T p) (start x) (s - start x)) s 0 (by omega) (by have := cw_le (f := mine T p) (start x) (s - start x); omega) (nth_at p4 (by omega) h1 (by rw [← hkT]; exact h2) h3))
      have M1 := Lib.hid (show ∀ s, mine T p s = decide (own T s = p) from fun s => rfl)
      have U1 := Lib.hid (show ∀ j, cw (mine T p) (start x) (j + 1) = cw (mine T p) (start x) j + if mine T p (start x + j) then 1 else 0 from fun j => rfl)
      have U2 := Lib.hid (show ∀ j, rowL (mine T p) (start x) (j + 1) = if mine T p (start x + j) then (0, (rowL (mine T p) (start x) j).2) else ((rowL (mine T p) (start x) j).1 + 1, max (rowL (mine T p) (start x) j).2 ((rowL (mine T p) (start x) j).1 + 1)) from fun j => rfl)
      have U3 := Lib.hid (show ∀ j, cw (mine T p) (start x) j ≤ j from fun j => cw_le _ _)
      have U4 := Lib.hid (show ∀ j, (rowL (mine T p) (start x) j).1 ≤ j ∧ (rowL (mine T p) (start x) j).1 ≤ (rowL (mine T p) (start x) j).2 from fun j => ⟨(rowL_row _ _).1, rowL_le _ _⟩)
      have U5 := Lib.hid (show ∀ j, (rowL (mine T p) (start x) j).2 ≤ j from fun j => by
        induction j with
        | zero => exact Nat.le_refl _
        | succ j ih =>
          have := (rowL_row (f := mine T p) (start x) j).1
          simp only [rowL]; split <;> simp only <;> omega)
      have Z1 := Lib.hid (show cw (mine T p) (start x) 0 = 0 ∧ rowL (mine T p) (start x) 0 = (0, 0) from ⟨rfl, rfl⟩)
      have E1 := Lib.hid (show p ∈ T → 0 < gap T p ∧ 0 < cw (mine T p) (start x) (3 * n) ∧ (rowL (mine T p) (start x) (3 * n)).2 + 1 = gap T p from fun hp => by
        have hl := longest (f := mine T p) (k := T.length) (SlotsP.mine_per T p) (some_iff.2 hp) p3 (start x)
        have hg : gap T p = gapTo (mine T p) T.length T.length := if_pos hp
        refine ⟨by omega, ?_, by rw [hg, hkT]; exact hl⟩
        rw [hkT, cw_mul (SlotsP.mine_per T p)]
        have := cnt_pos.2 hp
        omega)
      have E2 := Lib.hid (show ¬ p ∈ T → gap T p = 0 ∧ cw (mine T p) (start x) (3 * n) = 0 from fun hp => by
        refine ⟨if_neg hp, cw_zero _ _ fun j _ => ?_⟩
        rw [M1.out, decide_eq_false_iff_not]
        intro h
        exact hp (h ▸ own_mem p3 _))
      have E3 := Lib.hid (fun (hp : ¬ p ∈ T) q => nth0 (HA.out.drewN q) p (start x) (by omega) hp)
      clear hkT p3 p4
      have st : ∃ a, a = start x := ⟨_, rfl⟩
      by_cases hx0 : x < 0
      · have e1 := hs1 hx0
        clear hs1 hs2
        generalize start x = a at *
        go_wp2_with fail
        refine HG.out.mono ?_
        rintro e w' ⟨rfl, q, rfl⟩
        clear e1 hx hx0 st
        go_wp2_with fail
        generalize gap T p = G at *
        generalize mine T p = f at *
        generalize own T = u at *
        generalize cw f a = C at *
        generalize rowL f a = R at *
        go_loopg [14, 16, 17, 18] (3 * n) (fun g s14 s16 s17 s18 wr => ∃ j s q : Nat, j ≤ 3 * n ∧ 3 * n - j ≤ g ∧ s = a + j ∧ s18 = .int .i64 s ∧ s14 = .int .i64 (C j : Nat) ∧ s16 = .int .i64 ((R j).1 : Nat) ∧ s17 = .int .i64 ((R j).2 : Nat) ∧ wr = w3.drewN q)
        case atStart => exact ⟨0, a, q, by omega, by omega, rfl, rfl, by rw [Z1.out.1]; rfl, by rw [Z1.out.2]; rfl, by rw [Z1.out.2]; rfl, rfl⟩
        case round =>
          obtain ⟨j, s, q, hj, hgg, hs, rfl, rfl, rfl, rfl, rfl⟩ := hrel
          have c1 := U3.out j
          have c2 := (U4.out j).1
          have c3 := U5.out j
          by_cases hlt : j < 3 * n
          · have hs3 : s < a + 3 * n := by omega
            have hsb : s ≤ 1152921504606847200 := by omega
            have has : a ≤ s := by omega
            have hcell2 := HCELL.out s
            have K1 := Lib.hid (Q1.out s)
            have K2 := Lib.hid (Q2.out s has (by omega))
            rw [show s - a = j by omega] at K2
            have hmod := Nat.mod_lt s hn0
            have u1 := U1.out j
            have u2 := U2.out j
            rw [← hs] at u1 u2
            by_cases hm : u s = p
            · have hfs : f s = true := by rw [M1.out, hm]; simp
              have K3 := Lib.hid (Q3.out s has hs3 hfs)
              rw [show s - a = j by omega] at K3
              rw [hfs, if_pos rfl] at u1 u2
              have HS := Lib.hid hs
              have V1 := Lib.hid u1
              have V2 := Lib.hid u2
              clear hs u1 u2
              generalize C j = cj at *
              generalize hr : R j = rj at *
              obtain ⟨r1, r2⟩ := rj
              simp only at c2 c3
              clear hr hfs
              rw [hm] at hcell2 K1
              clear hm
              go_wp2_with ((with_reducible refine (K1.out _).mono ?_); rintro e w' ⟨rfl, q1, rfl⟩)
              go_quiet (first | (with_reducible exact quiet2 (K1.out _)) | (with_reducible exact quiet2 (K2.out _)))
              go_wp2_with ((with_reducible refine (K3.out _).mono ?_); rintro e w' ⟨rfl, q2, rfl⟩)
              all_goals
                go_roundg (3 * n - (j + 1))
                case measure => omega
                case rel => exact ⟨j + 1, s + 1, _, by omega, by omega, by have := HS.out; omega, by go_num, by rw [V1.out]; go_num, by rw [V2.out]; rfl, by rw [V2.out], rfl⟩
            · have hfs : f s = false := by rw [M1.out]; simpa using hm
              rw [hfs, if_neg (by decide)] at u1 u2
              have hv1 : (u s == p) = false := by simpa using hm
              have HS := Lib.hid hs
              have V1 := Lib.hid u1
              have V2 := Lib.hid u2
              clear hs u1 u2
              generalize u s = v at *
              generalize C j = cj at *
              generalize hr : R j = rj at *
              obtain ⟨r1, r2⟩ := rj
              simp only at c2 c3
              clear hr hfs hm
              go_wp2_with ((with_reducible refine (K1.out _).mono ?_); rintro e w' ⟨rfl, q1, rfl⟩)
              go_quiet (first | (with_reducible exact quiet2 (K1.out _)) | (with_reducible exact quiet2 (K2.out _)))
              go_wp2_with fail
              all_goals
                go_roundg (3 * n - (j + 1))
                case measure => omega
                case rel => exact ⟨j + 1, s + 1, _, by omega, by omega, by have := HS.out; omega, by go_num, by rw [V1.out]; rfl, by rw [V2.out]; go_num, by rw [V2.out]; exact int_eq (by simp only; omega), rfl⟩
          · obtain rfl : j = 3 * n := by omega
            have hN : New w (w3.drewN q) := HN3.out.drewN q
            have hge : (a : Int) + 3 * (n : Int) ≤ (s : Int) := by omega
            have hsb : s ≤ 1152921504606847200 := by omega
            have HN := Lib.hid hN
            have HS := Lib.hid hs
            clear hN hs
            by_cases hp : p ∈ T
            · obtain ⟨g1, g2, g3⟩ := E1.out hp
              generalize hr : R (3 * n) = rj at *
              obtain ⟨r1, r2⟩ := rj
              simp only at g3 c2 c3
              generalize C (3 * n) = cj at *
              have g5 : ((G : Int) == 0) = false := by simp; omega
              have g6 : 0 < (cj : Int) := by omega
              clear hr hp
              obtain rfl := g3
              go_wp2_with fail
              all_goals (go_ret; exact ⟨by first | rfl | (simp [Array.getD]; try omega), HN.out⟩)
            · obtain ⟨g1, g2⟩ := E2.out hp
              have K3 := Lib.hid (E3.out hp)
              rw [g2]
              obtain rfl := g1
              clear g2 hp
              go_wp2_with ((with_reducible refine (K3.out _).mono ?_); rintro e w' ⟨rfl, q2, rfl⟩)
              all_goals (go_ret; exact ⟨by first | rfl | (simp [Array.getD]; try omega), HN3.out.drewN _⟩)
      · have e1 := hs2 (by omega)
        have hx1 : 0 ≤ x := by omega
        clear hs1 hs2 hx0
        generalize start x = a at *
        go_wp2_with fail
        refine HG.out.mono ?_
        rintro e w' ⟨rfl, q, rfl⟩
        simp only [e1]
        clear e1 hx hx1 st
        go_wp2_with fail
        generalize gap T p = G at *
        generalize mine T p = f at *
        generalize own T = u at *
        generalize cw f a = C at *
        generalize rowL f a = R at *
        go_loopg [14, 16, 17, 18] (3 * n) (fun g s14 s16 s17 s18 wr => ∃ j s q : Nat, j ≤ 3 * n ∧ 3 * n - j ≤ g ∧ s = a + j ∧ s18 = .int .i64 s ∧ s14 = .int .i64 (C j : Nat) ∧ s16 = .int .i64 ((R j).1 : Nat) ∧ s17 = .int .i64 ((R j).2 : Nat) ∧ wr = w3.drewN q)
        case atStart => exact ⟨0, a, q, by omega, by omega, rfl, rfl, by rw [Z1.out.1]; rfl, by rw [Z1.out.2]; rfl, by rw [Z1.out.2]; rfl, rfl⟩
        case round =>
          obtain ⟨j, s, q, hj, hgg, hs, rfl, rfl, rfl, rfl, rfl⟩ := hrel
          have c1 := U3.out j
          have c2 := (U4.out j).1
          have c3 := U5.out j
          by_cases hlt : j < 3 * n
          · have hs3 : s < a + 3 * n := by omega
            have hsb : s ≤ 1152921504606847200 := by omega
            have has : a ≤ s := by omega
            have hcell2 := HCELL.out s
            have K1 := Lib.hid (Q1.out s)
            have K2 := Lib.hid (Q2.out s has (by omega))
            rw [show s - a = j by omega] at K2
            have hmod := Nat.mod_lt s hn0
            have u1 := U1.out j
            have u2 := U2.out j
            rw [← hs] at u1 u2
            by_cases hm : u s = p
            · have hfs : f s = true := by rw [M1.out, hm]; simp
              have K3 := Lib.hid (Q3.out s has hs3 hfs)
              rw [show s - a = j by omega] at K3
              rw [hfs, if_pos rfl] at u1 u2
              have HS := Lib.hid hs
              have V1 := Lib.hid u1
              have V2 := Lib.hid u2
              clear hs u1 u2
              generalize C j = cj at *
              generalize hr : R j = rj at *
              obtain ⟨r1, r2⟩ := rj
              simp only at c2 c3
              clear hr hfs
              rw [hm] at hcell2 K1
              clear hm
              go_wp2_with ((with_reducible refine (K1.out _).mono ?_); rintro e w' ⟨rfl, q1, rfl⟩)
              go_quiet (first | (with_reducible exact quiet2 (K1.out _)) | (with_reducible exact quiet2 (K2.out _)))
              go_wp2_with ((with_reducible refine (K3.out _).mono ?_); rintro e w' ⟨rfl, q2, rfl⟩)
              all_goals
                go_roundg (3 * n - (j + 1))
                case measure => omega
                case rel => exact ⟨j + 1, s + 1, _, by omega, by omega, by have := HS.out; omega, by go_num, by rw [V1.out]; go_num, by rw [V2.out]; rfl, by rw [V2.out], rfl⟩
            · have hfs : f s = false := by rw [M1.out]; simpa using hm
              rw [hfs, if_neg (by decide)] at u1 u2
              have hv1 : (u s == p) = false := by simpa using hm
              have HS := Lib.hid hs
              have V1 := Lib.hid u1
              have V2 := Lib.hid u2
              clear hs u1 u2
              generalize u s = v at *
              generalize C j = cj at *
              generalize hr : R j = rj at *
              obtain ⟨r1, r2⟩ := rj
              simp only at c2 c3
              clear hr hfs hm
              go_wp2_with ((with_reducible refine (K1.out _).mono ?_); rintro e w' ⟨rfl, q1, rfl⟩)
              go_quiet (first | (with_reducible exact quiet2 (K1.out _)) | (with_reducible exact quiet2 (K2.out _)))
              go_wp2_with fail
              all_goals
                go_roundg (3 * n - (j + 1))
                case measure => omega
                case rel => exact ⟨j + 1, s + 1, _, by omega, by omega, by have := HS.out; omega, by go_num, by rw [V1.out]; rfl, by rw [V2.out]; go_num, by rw [V2.out]; exact int_eq (by simp only; omega), rfl⟩
          · obtain rfl : j = 3 * n := by omega
            have hN : New w (w3.drewN q) := HN3.out.drewN q
            have hge : (a : Int) + 3 * (n : Int) ≤ (s : Int) := by omega
            have hsb : s ≤ 1152921504606847200 := by omega
            have HN := Lib.hid hN
            have HS := Lib.hid hs
            clear hN hs
            by_cases hp : p ∈ T
            · obtain ⟨g1, g2, g3⟩ := E1.out hp
              generalize hr : R (3 * n) = rj at *
              obtain ⟨r1, r2⟩ := rj
              simp only at g3 c2 c3
              generalize C (3 * n) = cj at *
              have g5 : ((G : Int) == 0) = false := by simp; omega
              have g6 : 0 < (cj : Int) := by omega
              clear hr hp
              obtain rfl := g3
              go_wp2_with fail
              all_goals (go_ret; exact ⟨by first | rfl | (simp [Array.getD]; try omega), HN.out⟩)
            · obtain ⟨g1, g2⟩ := E2.out hp
              have K3 := Lib.hid (E3.out hp)
              rw [g2]
              obtain rfl := g1
              clear g2 hp
              go_wp2_with ((with_reducible refine (K3.out _).mono ?_); rintro e w' ⟨rfl, q2, rfl⟩)
              all_goals (go_ret; exact ⟨by first | rfl | (simp [Array.getD]; try omega), HN3.out.drewN _⟩)
    · have hw3' := HW2.out.trans hw3
      have h1 : (newE T parts).1 ≠ 0 := newE_ne hE
      have HE := Lib.hid hE
      clear hE
      generalize hz1 : (newE T parts).1 = z1 at *
      generalize hz2 : (newE T parts).2 = z2 at *
      clear hz1 hz2
      have h2 : (z1 != 0) = true := by simpa using h1
      clear h1
      go_wp2_with fail
      go_ret
      exact ⟨rfl, hw3'⟩
  · have hlong := fun W => long_yes A n c W hb hn
    have HL := Lib.hid hl
    have HFIX := Lib.hid hfix
    have HLONG := Lib.hid hlong
    clear hl hfix hlong
    clear hn
    go_enter Try.func4, Try.ntmps4
    go_wp2_with fail
    refine HFIX.out.mono ?_
    rintro e w1 ⟨rfl, hw1⟩
    go_wp2_with (refine (HLONG.out _).mono ?_; rintro e w' ⟨rfl, rfl⟩)
    go_ret
    exact ⟨rfl, hw1⟩
end Go.Proofs.Ytnfcjfjkioodbaa.Slots
