/- The walks of package view's same.. (layer 18). -/
import Derived.Test.YtgdmajockejpgaaViewH
namespace Go.Proofs.Ytgdmajockejpgaa.View
open Go.RowKit Go.Fb
set_option linter.unusedVariables false
set_option maxHeartbeats 4000000 in
theorem eqf_part {w : World} {B : Nat} {A1 A2 : Option Addr} {n1 n2 c1 c2 : Nat} {l1 l2 : List (Part)} (h1 : SliceOf repPart w B A1 n1 c1 l1) (h2 : SliceOf repPart w B A2 n2 c2 l2) (hB : B ≤ w.heap.size) :
    Calls Try.prog 35 #[.slice A1 n1 c1, .slice A2 n2 c2, .func (.func 22) #[] #[]] w fun e w' => e = .returned (.bool (eqb l1 l2)) ∧ New w w' := by
  have e1 := h1.len
  have e2 := h2.len
  have b1 := h1.bound
  have b2 := h2.bound
  by_cases hn : n1 = n2
  · subst hn
    have R1 := Lib.hid (sl_here h1 hB)
    have R2 := Lib.hid (sl_here h2 hB)
    have T1 := Lib.hid (fun j (a : j < l1.length) (b : j < l2.length) (ht : l1.take j = l2.take j) (e : l1[j] = l2[j]) => take_next a b ht e)
    have T2 := Lib.hid (fun j (a : j < l1.length) (b : j < l2.length) (e : ¬ l1[j] = l2[j]) => show eqb l1 l2 = false from eqb_false fun h => e (by subst h; rfl))
    have T3 := Lib.hid (fun (ht : l1.take n1 = l2.take n1) => show eqb l1 l2 = true from eqb_true (by rw [List.take_of_length_le (by omega), List.take_of_length_le (by omega)] at ht; exact ht))
    generalize eqb l1 l2 = res at *
    have H1 := Lib.hid h1
    have H2 := Lib.hid h2
    have E1 := Lib.hid e1
    have E2 := Lib.hid e2
    have HB := Lib.hid hB
    clear h1 h2 e1 e2 hB
    go_enter Try.func35, Try.ntmps35
    go_wp2_with fail
    go_loopw [17] (fun s wr => ∃ j : Nat, j ≤ n1 ∧ s = .int .i64 j ∧ New w wr ∧ Hid (l1.take j = l2.take j)) (fun s _ => (n1 - intOf s).toNat)
    case atStart => exact ⟨0, Nat.zero_le _, rfl, Kept.refl _ _, Lib.hid rfl⟩
    case round =>
      obtain ⟨j, hj, rfl, hnr, D⟩ := hrel
      by_cases hlt : j < n1
      · have a1 : j < l1.length := by have := E1.out; omega
        have a2 : j < l2.length := by have := E2.out; omega
        obtain ⟨g1, o1, cs1, rfl, s1, hc1⟩ := R1.out j a1
        obtain ⟨g2, o2, cs2, rfl, s2, hc2⟩ := R2.out j a2
        obtain ⟨p0, p1, p2, p3, p4, p5, p6, p7, p8, rfl, -⟩ := (hc1 wr hnr).2
        obtain ⟨q0, q1, q2, q3, q4, q5, q6, q7, q8, rfl, -⟩ := (hc2 wr hnr).2
        obtain ⟨kx, -⟩ := hc1 wr hnr
        obtain ⟨ky, -⟩ := hc2 (wr.alloc (.cells #[.int .i64 l1[j].cursor, .slice p0 p1 p2, .int .i64 l1[j].lost, .int .i64 l1[j].forbidden, .slice p3 p4 p5, .slice p6 p7 p8] 43)) (hnr.alloc _)
        have zx0 := kx 0 (by decide)
        have zx1 := kx 1 (by decide)
        have zx2 := kx 2 (by decide)
        have zx3 := kx 3 (by decide)
        have zx4 := kx 4 (by decide)
        have zx5 := kx 5 (by decide)
        have zy0 := ky 0 (by decide)
        have zy1 := ky 1 (by decide)
        have zy2 := ky 2 (by decide)
        have zy3 := ky 3 (by decide)
        have zy4 := ky 4 (by decide)
        have zy5 := ky 5 (by decide)
        simp only [repPart, Nat.add_zero, Nat.mul_one, List.getElem?_cons_zero, List.getElem?_cons_succ] at zx0 zx1 zx2 zx3 zx4 zx5 zy0 zy1 zy2 zy3 zy4 zy5
        have HC := Lib.hid (fun W (hW : New w W) => same_part (hc1 W hW).2 (hc2 W hW).2 (Nat.le_trans HB.out hW.size))
        have D2 := Lib.hid (fun e => T1.out j a1 a2 D.out e)
        have D3 := Lib.hid (fun e => T2.out j a1 a2 e)
        generalize l1[j] = u at *
        generalize l2[j] = v at *
        have f2 : (0 : Int) ≤ (j : Int) := by omega
        have f3 : (j : Int) < (n1 : Int) := by omega
        by_cases he : u = v
        · have D4 := Lib.hid (D2.out he)
          have HC2 : Hid (∀ W, New w W → Calls _ _ _ W fun e w' => e = .returned (.bool true) ∧ New W w') := Lib.hid fun W hW => by have := HC.out W hW; rw [eqb_true he] at this; exact this
          have HNR := Lib.hid hnr
          have A1 := Lib.hid a1
          have A2 := Lib.hid a2
          clear hnr a1 a2
          clear kx ky hc1 hc2 he
          go_wp2_with fail
          refine (HC2.out _ (by first | exact HNR.out | exact (HNR.out.alloc _).alloc _)).mono ?_
          rintro e w5 ⟨rfl, hn5⟩
          have hn5 : New w w5 := by first | exact HNR.out.trans hn5 | exact ((HNR.out.alloc _).alloc _).trans hn5
          have HN5 := Lib.hid hn5
          clear hn5
          go_wp2_with fail
          go_roundw
          case rel => exact ⟨j + 1, by omega, by go_num, HN5.out, D4⟩
          case measure => simp [intOf]; omega
        · have E := Lib.hid (D3.out he)
          have HC2 : Hid (∀ W, New w W → Calls _ _ _ W fun e w' => e = .returned (.bool false) ∧ New W w') := Lib.hid fun W hW => by have := HC.out W hW; rw [eqb_false he] at this; exact this
          have HNR := Lib.hid hnr
          have A1 := Lib.hid a1
          have A2 := Lib.hid a2
          clear hnr a1 a2
          clear kx ky hc1 hc2 he
          go_wp2_with fail
          refine (HC2.out _ (by first | exact HNR.out | exact (HNR.out.alloc _).alloc _)).mono ?_
          rintro e w5 ⟨rfl, hn5⟩
          have hn5 : New w w5 := by first | exact HNR.out.trans hn5 | exact ((HNR.out.alloc _).alloc _).trans hn5
          have HN5 := Lib.hid hn5
          clear hn5
          go_wp2_with fail
          go_ret
          exact ⟨by rw [E.out]; rfl, HN5.out⟩
      · obtain rfl : j = n1 := by omega
        have E := Lib.hid (T3.out D.out)
        have HNR := Lib.hid hnr
        clear hnr
        go_wp2_with fail
        go_ret
        exact ⟨by rw [E.out]; rfl, HNR.out⟩
  · have E := Lib.hid (show eqb l1 l2 = false from eqb_false fun h => hn (by rw [e1, e2, h]))
    have hn' : (n1 != n2) = true := by simpa using hn
    have hn2 : ((n1 : Int) != (n2 : Int)) = true := by simp; omega
    clear h1 h2 e1 e2 hn
    go_enter Try.func35, Try.ntmps35
    go_wp2_with fail
    go_ret
    exact ⟨by rw [E.out]; rfl, Kept.refl _ _⟩
theorem gsame_part {w : World} {B : Nat} {A1 A2 : Option Addr} {n1 n2 c1 c2 : Nat} {l1 l2 : List (Part)} (h1 : SliceOf repPart w B A1 n1 c1 l1) (h2 : SliceOf repPart w B A2 n2 c2 l2) (hB : B ≤ w.heap.size) :
    Calls Try.prog 21 #[.slice A1 n1 c1, .slice A2 n2 c2, .func (.func 22) #[] #[]] w fun e w' => e = .returned (.bool (eqb l1 l2)) ∧ New w w' := by
  have h := eqf_part h1 h2 hB
  generalize eqb l1 l2 = res at *
  have H := Lib.hid h
  clear h
  clear h1 h2
  go_enter Try.func21, Try.ntmps21
  go_wp2_with fail
  refine H.out.mono ?_
  rintro e w1 ⟨rfl, hn⟩
  have HN := Lib.hid hn
  clear hn
  go_wp2_with fail
  go_ret
  exact ⟨rfl, HN.out⟩
end Go.Proofs.Ytgdmajockejpgaa.View
