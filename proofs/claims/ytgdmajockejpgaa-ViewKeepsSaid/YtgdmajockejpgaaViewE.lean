/- slices.EqualFunc over numbers (layer 18). -/
import Derived.Test.YtgdmajockejpgaaViewP
namespace Go.Proofs.Ytgdmajockejpgaa.View
open Go.RowKit Go.Fb
set_option linter.unusedVariables false
noncomputable def eqb {α : Type} (a b : α) : Bool := @decide (a = b) (Classical.propDecidable _)
theorem eqb_true {α : Type} {a b : α} (h : a = b) : eqb a b = true := by unfold eqb; simp [h]
theorem eqb_false {α : Type} {a b : α} (h : ¬ a = b) : eqb a b = false := by unfold eqb; simp [h]
theorem list1 {α : Type} {l : List α} (h : l.length = 1) : ∃ x0, l = [x0] := by
  match l, h with
  | [a], _ => exact ⟨_, rfl⟩
theorem list2 {α : Type} {l : List α} (h : l.length = 2) : ∃ x0 x1, l = [x0, x1] := by
  match l, h with
  | [a, b], _ => exact ⟨_, _, rfl⟩
theorem list3 {α : Type} {l : List α} (h : l.length = 3) : ∃ x0 x1 x2, l = [x0, x1, x2] := by
  match l, h with
  | [a, b, c], _ => exact ⟨_, _, _, rfl⟩
theorem list4 {α : Type} {l : List α} (h : l.length = 4) : ∃ x0 x1 x2 x3, l = [x0, x1, x2, x3] := by
  match l, h with
  | [a, b, c, d], _ => exact ⟨_, _, _, _, rfl⟩
theorem list6 {α : Type} {l : List α} (h : l.length = 6) : ∃ x0 x1 x2 x3 x4 x5, l = [x0, x1, x2, x3, x4, x5] := by
  match l, h with
  | [a, b, c, d, e, f], _ => exact ⟨_, _, _, _, _, _, rfl⟩
theorem list15 {α : Type} {l : List α} (h : l.length = 15) : ∃ x0 x1 x2 x3 x4 x5 x6 x7 x8 x9 x10 x11 x12 x13 x14, l = [x0, x1, x2, x3, x4, x5, x6, x7, x8, x9, x10, x11, x12, x13, x14] := by
  match l, h with
  | [a0, a1, a2, a3, a4, a5, a6, a7, a8, a9, a10, a11, a12, a13, a14], _ => exact ⟨_, _, _, _, _, _, _, _, _, _, _, _, _, _, _, rfl⟩
theorem same_int {w : World} {B : Nat} {x y : Int} {a b : Value} (h1 : (Rep.int .i64).cells w B x [a]) (h2 : (Rep.int .i64).cells w B y [b]) (hB : B ≤ w.heap.size) : Calls Try.prog 38 #[a, b] w fun e w' => e = .returned (.bool (eqb x y)) ∧ New w w' := by
  obtain ⟨h1, -⟩ := h1
  obtain ⟨h2, -⟩ := h2
  injection h1 with h1
  injection h2 with h2
  subst h1; subst h2
  go_enter Try.func38, Try.ntmps38
  go_wp2_with fail
  go_ret
  exact ⟨by by_cases h : x = y
            · rw [eqb_true h]; simp [h]
            · rw [eqb_false h]; simp [h], Kept.refl _ _⟩
theorem same_i64 {w : World} {B : Nat} {x y : Int} {a b : Value} (h1 : (Rep.int .i64).cells w B x [a]) (h2 : (Rep.int .i64).cells w B y [b]) (hB : B ≤ w.heap.size) : Calls Try.prog 51 #[a, b] w fun e w' => e = .returned (.bool (eqb x y)) ∧ New w w' := by
  obtain ⟨h1, -⟩ := h1
  obtain ⟨h2, -⟩ := h2
  injection h1 with h1
  injection h2 with h2
  subst h1; subst h2
  go_enter Try.func51, Try.ntmps51
  go_wp2_with fail
  go_ret
  exact ⟨by by_cases h : x = y
            · rw [eqb_true h]; simp [h]
            · rw [eqb_false h]; simp [h], Kept.refl _ _⟩
set_option maxHeartbeats 4000000 in
theorem eqf_int {w : World} {B : Nat} {A1 A2 : Option Addr} {n1 n2 c1 c2 : Nat} {l1 l2 : List (Int)} (h1 : SliceOf (Rep.int .i64) w B A1 n1 c1 l1) (h2 : SliceOf (Rep.int .i64) w B A2 n2 c2 l2) (hB : B ≤ w.heap.size) :
    Calls Try.prog 46 #[.slice A1 n1 c1, .slice A2 n2 c2, .func (.func 38) #[] #[]] w fun e w' => e = .returned (.bool (eqb l1 l2)) ∧ New w w' := by
  have e1 := h1.len
  have e2 := h2.len
  have b1 := h1.bound
  have b2 := h2.bound
  by_cases hn : n1 = n2
  · subst hn
    have R1 := Lib.hid (sl_here h1 hB)
    have R2 := Lib.hid (sl_here h2 hB)
    have T1 := Lib.hid (fun j (a : j < l1.length) (b : j < l2.length) (ht : l1.take j = l2.take j) (e : l1[j] = l2[j]) => take_next a b ht e)
    have T2 := Lib.hid (fun j (a : j < l1.length) (b : j < l2.length) (e : ¬ l1[j] = l2[j]) => show eqb l1 l2 = false from eqb_false fun h => e (by subst h; rfl))
    have T3 := Lib.hid (fun (ht : l1.take n1 = l2.take n1) => show eqb l1 l2 = true from eqb_true (by rw [List.take_of_length_le (by omega), List.take_of_length_le (by omega)] at ht; exact ht))
    generalize eqb l1 l2 = res at *
    have H1 := Lib.hid h1
    have H2 := Lib.hid h2
    have E1 := Lib.hid e1
    have E2 := Lib.hid e2
    have HB := Lib.hid hB
    clear h1 h2 e1 e2 hB
    go_enter Try.func46, Try.ntmps46
    go_wp2_with fail
    go_loopw [17] (fun s wr => ∃ j : Nat, j ≤ n1 ∧ s = .int .i64 j ∧ New w wr ∧ Hid (l1.take j = l2.take j)) (fun s _ => (n1 - intOf s).toNat)
    case atStart => exact ⟨0, Nat.zero_le _, rfl, Kept.refl _ _, Lib.hid rfl⟩
    case round =>
      obtain ⟨j, hj, rfl, hnr, D⟩ := hrel
      by_cases hlt : j < n1
      · have a1 : j < l1.length := by have := E1.out; omega
        have a2 : j < l2.length := by have := E2.out; omega
        obtain ⟨g1, o1, cs1, rfl, s1, hc1⟩ := R1.out j a1
        obtain ⟨g2, o2, cs2, rfl, s2, hc2⟩ := R2.out j a2
        obtain ⟨x0, rfl⟩ : ∃ x0, cs1 = [x0] := list1 s1
        obtain ⟨y0, rfl⟩ : ∃ y0, cs2 = [y0] := list1 s2
        obtain ⟨kx, -⟩ := hc1 wr hnr
        obtain ⟨ky, -⟩ := hc2 wr hnr
        have zx0 := kx 0 (by decide)
        have zy0 := ky 0 (by decide)
        simp only [Rep.int, Nat.add_zero, Nat.mul_one, List.getElem?_cons_zero, List.getElem?_cons_succ] at zx0 zy0
        have HC := Lib.hid (fun W (hW : New w W) => same_int (hc1 W hW).2 (hc2 W hW).2 (Nat.le_trans HB.out hW.size))
        have D2 := Lib.hid (fun e => T1.out j a1 a2 D.out e)
        have D3 := Lib.hid (fun e => T2.out j a1 a2 e)
        generalize l1[j] = u at *
        generalize l2[j] = v at *
        have f2 : (0 : Int) ≤ (j : Int) := by omega
        have f3 : (j : Int) < (n1 : Int) := by omega
        by_cases he : u = v
        · have D4 := Lib.hid (D2.out he)
          have HC2 : Hid (∀ W, New w W → Calls _ _ _ W fun e w' => e = .returned (.bool true) ∧ New W w') := Lib.hid fun W hW => by have := HC.out W hW; rw [eqb_true he] at this; exact this
          have HNR := Lib.hid hnr
          have A1 := Lib.hid a1
          have A2 := Lib.hid a2
          clear hnr a1 a2
          clear kx ky hc1 hc2 he
          go_wp2_with fail
          refine (HC2.out _ (by first | exact HNR.out | exact (HNR.out.alloc _).alloc _)).mono ?_
          rintro e w5 ⟨rfl, hn5⟩
          have hn5 : New w w5 := by first | exact HNR.out.trans hn5 | exact ((HNR.out.alloc _).alloc _).trans hn5
          have HN5 := Lib.hid hn5
          clear hn5
          go_wp2_with fail
          go_roundw
          case rel => exact ⟨j + 1, by omega, by go_num, HN5.out, D4⟩
          case measure => simp [intOf]; omega
        · have E := Lib.hid (D3.out he)
          have HC2 : Hid (∀ W, New w W → Calls _ _ _ W fun e w' => e = .returned (.bool false) ∧ New W w') := Lib.hid fun W hW => by have := HC.out W hW; rw [eqb_false he] at this; exact this
          have HNR := Lib.hid hnr
          have A1 := Lib.hid a1
          have A2 := Lib.hid a2
          clear hnr a1 a2
          clear kx ky hc1 hc2 he
          go_wp2_with fail
          refine (HC2.out _ (by first | exact HNR.out | exact (HNR.out.alloc _).alloc _)).mono ?_
          rintro e w5 ⟨rfl, hn5⟩
          have hn5 : New w w5 := by first | exact HNR.out.trans hn5 | exact ((HNR.out.alloc _).alloc _).trans hn5
          have HN5 := Lib.hid hn5
          clear hn5
          go_wp2_with fail
          go_ret
          exact ⟨by rw [E.out]; rfl, HN5.out⟩
      · obtain rfl : j = n1 := by omega
        have E := Lib.hid (T3.out D.out)
        have HNR := Lib.hid hnr
        clear hnr
        go_wp2_with fail
        go_ret
        exact ⟨by rw [E.out]; rfl, HNR.out⟩
  · have E := Lib.hid (show eqb l1 l2 = false from eqb_false fun h => hn (by rw [e1, e2, h]))
    have hn' : (n1 != n2) = true := by simpa using hn
    have hn2 : ((n1 : Int) != (n2 : Int)) = true := by simp; omega
    clear h1 h2 e1 e2 hn
    go_enter Try.func46, Try.ntmps46
    go_wp2_with fail
    go_ret
    exact ⟨by rw [E.out]; rfl, Kept.refl _ _⟩
theorem gsame_int {w : World} {B : Nat} {A1 A2 : Option Addr} {n1 n2 c1 c2 : Nat} {l1 l2 : List (Int)} (h1 : SliceOf (Rep.int .i64) w B A1 n1 c1 l1) (h2 : SliceOf (Rep.int .i64) w B A2 n2 c2 l2) (hB : B ≤ w.heap.size) :
    Calls Try.prog 37 #[.slice A1 n1 c1, .slice A2 n2 c2, .func (.func 38) #[] #[]] w fun e w' => e = .returned (.bool (eqb l1 l2)) ∧ New w w' := by
  have h := eqf_int h1 h2 hB
  generalize eqb l1 l2 = res at *
  have H := Lib.hid h
  clear h
  clear h1 h2
  go_enter Try.func37, Try.ntmps37
  go_wp2_with fail
  refine H.out.mono ?_
  rintro e w1 ⟨rfl, hn⟩
  have HN := Lib.hid hn
  clear hn
  go_wp2_with fail
  go_ret
  exact ⟨rfl, HN.out⟩
set_option maxHeartbeats 4000000 in
theorem eqf_i64 {w : World} {B : Nat} {A1 A2 : Option Addr} {n1 n2 c1 c2 : Nat} {l1 l2 : List (Int)} (h1 : SliceOf (Rep.int .i64) w B A1 n1 c1 l1) (h2 : SliceOf (Rep.int .i64) w B A2 n2 c2 l2) (hB : B ≤ w.heap.size) :
    Calls Try.prog 54 #[.slice A1 n1 c1, .slice A2 n2 c2, .func (.func 51) #[] #[]] w fun e w' => e = .returned (.bool (eqb l1 l2)) ∧ New w w' := by
  have e1 := h1.len
  have e2 := h2.len
  have b1 := h1.bound
  have b2 := h2.bound
  by_cases hn : n1 = n2
  · subst hn
    have R1 := Lib.hid (sl_here h1 hB)
    have R2 := Lib.hid (sl_here h2 hB)
    have T1 := Lib.hid (fun j (a : j < l1.length) (b : j < l2.length) (ht : l1.take j = l2.take j) (e : l1[j] = l2[j]) => take_next a b ht e)
    have T2 := Lib.hid (fun j (a : j < l1.length) (b : j < l2.length) (e : ¬ l1[j] = l2[j]) => show eqb l1 l2 = false from eqb_false fun h => e (by subst h; rfl))
    have T3 := Lib.hid (fun (ht : l1.take n1 = l2.take n1) => show eqb l1 l2 = true from eqb_true (by rw [List.take_of_length_le (by omega), List.take_of_length_le (by omega)] at ht; exact ht))
    generalize eqb l1 l2 = res at *
    have H1 := Lib.hid h1
    have H2 := Lib.hid h2
    have E1 := Lib.hid e1
    have E2 := Lib.hid e2
    have HB := Lib.hid hB
    clear h1 h2 e1 e2 hB
    go_enter Try.func54, Try.ntmps54
    go_wp2_with fail
    go_loopw [17] (fun s wr => ∃ j : Nat, j ≤ n1 ∧ s = .int .i64 j ∧ New w wr ∧ Hid (l1.take j = l2.take j)) (fun s _ => (n1 - intOf s).toNat)
    case atStart => exact ⟨0, Nat.zero_le _, rfl, Kept.refl _ _, Lib.hid rfl⟩
    case round =>
      obtain ⟨j, hj, rfl, hnr, D⟩ := hrel
      by_cases hlt : j < n1
      · have a1 : j < l1.length := by have := E1.out; omega
        have a2 : j < l2.length := by have := E2.out; omega
        obtain ⟨g1, o1, cs1, rfl, s1, hc1⟩ := R1.out j a1
        obtain ⟨g2, o2, cs2, rfl, s2, hc2⟩ := R2.out j a2
        obtain ⟨x0, rfl⟩ : ∃ x0, cs1 = [x0] := list1 s1
        obtain ⟨y0, rfl⟩ : ∃ y0, cs2 = [y0] := list1 s2
        obtain ⟨kx, -⟩ := hc1 wr hnr
        obtain ⟨ky, -⟩ := hc2 wr hnr
        have zx0 := kx 0 (by decide)
        have zy0 := ky 0 (by decide)
        simp only [Rep.int, Nat.add_zero, Nat.mul_one, List.getElem?_cons_zero, List.getElem?_cons_succ] at zx0 zy0
        have HC := Lib.hid (fun W (hW : New w W) => same_i64 (hc1 W hW).2 (hc2 W hW).2 (Nat.le_trans HB.out hW.size))
        have D2 := Lib.hid (fun e => T1.out j a1 a2 D.out e)
        have D3 := Lib.hid (fun e => T2.out j a1 a2 e)
        generalize l1[j] = u at *
        generalize l2[j] = v at *
        have f2 : (0 : Int) ≤ (j : Int) := by omega
        have f3 : (j : Int) < (n1 : Int) := by omega
        by_cases he : u = v
        · have D4 := Lib.hid (D2.out he)
          have HC2 : Hid (∀ W, New w W → Calls _ _ _ W fun e w' => e = .returned (.bool true) ∧ New W w') := Lib.hid fun W hW => by have := HC.out W hW; rw [eqb_true he] at this; exact this
          have HNR := Lib.hid hnr
          have A1 := Lib.hid a1
          have A2 := Lib.hid a2
          clear hnr a1 a2
          clear kx ky hc1 hc2 he
          go_wp2_with fail
          refine (HC2.out _ (by first | exact HNR.out | exact (HNR.out.alloc _).alloc _)).mono ?_
          rintro e w5 ⟨rfl, hn5⟩
          have hn5 : New w w5 := by first | exact HNR.out.trans hn5 | exact ((HNR.out.alloc _).alloc _).trans hn5
          have HN5 := Lib.hid hn5
          clear hn5
          go_wp2_with fail
          go_roundw
          case rel => exact ⟨j + 1, by omega, by go_num, HN5.out, D4⟩
          case measure => simp [intOf]; omega
        · have E := Lib.hid (D3.out he)
          have HC2 : Hid (∀ W, New w W → Calls _ _ _ W fun e w' => e = .returned (.bool false) ∧ New W w') := Lib.hid fun W hW => by have := HC.out W hW; rw [eqb_false he] at this; exact this
          have HNR := Lib.hid hnr
          have A1 := Lib.hid a1
          have A2 := Lib.hid a2
          clear hnr a1 a2
          clear kx ky hc1 hc2 he
          go_wp2_with fail
          refine (HC2.out _ (by first | exact HNR.out | exact (HNR.out.alloc _).alloc _)).mono ?_
          rintro e w5 ⟨rfl, hn5⟩
          have hn5 : New w w5 := by first | exact HNR.out.trans hn5 | exact ((HNR.out.alloc _).alloc _).trans hn5
          have HN5 := Lib.hid hn5
          clear hn5
          go_wp2_with fail
          go_ret
          exact ⟨by rw [E.out]; rfl, HN5.out⟩
      · obtain rfl : j = n1 := by omega
        have E := Lib.hid (T3.out D.out)
        have HNR := Lib.hid hnr
        clear hnr
        go_wp2_with fail
        go_ret
        exact ⟨by rw [E.out]; rfl, HNR.out⟩
  · have E := Lib.hid (show eqb l1 l2 = false from eqb_false fun h => hn (by rw [e1, e2, h]))
    have hn' : (n1 != n2) = true := by simpa using hn
    have hn2 : ((n1 : Int) != (n2 : Int)) = true := by simp; omega
    clear h1 h2 e1 e2 hn
    go_enter Try.func54, Try.ntmps54
    go_wp2_with fail
    go_ret
    exact ⟨by rw [E.out]; rfl, Kept.refl _ _⟩
theorem gsame_i64 {w : World} {B : Nat} {A1 A2 : Option Addr} {n1 n2 c1 c2 : Nat} {l1 l2 : List (Int)} (h1 : SliceOf (Rep.int .i64) w B A1 n1 c1 l1) (h2 : SliceOf (Rep.int .i64) w B A2 n2 c2 l2) (hB : B ≤ w.heap.size) :
    Calls Try.prog 50 #[.slice A1 n1 c1, .slice A2 n2 c2, .func (.func 51) #[] #[]] w fun e w' => e = .returned (.bool (eqb l1 l2)) ∧ New w w' := by
  have h := eqf_i64 h1 h2 hB
  generalize eqb l1 l2 = res at *
  have H := Lib.hid h
  clear h
  clear h1 h2
  go_enter Try.func50, Try.ntmps50
  go_wp2_with fail
  refine H.out.mono ?_
  rintro e w1 ⟨rfl, hn⟩
  have HN := Lib.hid hn
  clear hn
  go_wp2_with fail
  go_ret
  exact ⟨rfl, HN.out⟩
end Go.Proofs.Ytgdmajockejpgaa.View
