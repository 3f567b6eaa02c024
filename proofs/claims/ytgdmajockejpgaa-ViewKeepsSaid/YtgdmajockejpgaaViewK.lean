/- The walks of package view's same.. (layer 18). -/
import Derived.Test.YtgdmajockejpgaaViewI
import Derived.Test.YtgdmajockejpgaaViewH
namespace Go.Proofs.Ytgdmajockejpgaa.View
open Go.RowKit Go.Fb
set_option linter.unusedVariables false
set_option maxHeartbeats 4000000 in
theorem eqf_proc {w : World} {B : Nat} {A1 A2 : Option Addr} {n1 n2 c1 c2 : Nat} {l1 l2 : List (Process)} (h1 : SliceOf repProc w B A1 n1 c1 l1) (h2 : SliceOf repProc w B A2 n2 c2 l2) (hB : B ≤ w.heap.size) :
    Calls Try.prog 42 #[.slice A1 n1 c1, .slice A2 n2 c2, .func (.func 24) #[] #[]] w fun e w' => e = .returned (.bool (eqb l1 l2)) ∧ New w w' := by
  have e1 := h1.len
  have e2 := h2.len
  have b1 := h1.bound
  have b2 := h2.bound
  by_cases hn : n1 = n2
  · subst hn
    have R1 := Lib.hid (sl_here h1 hB)
    have R2 := Lib.hid (sl_here h2 hB)
    have T1 := Lib.hid (fun j (a : j < l1.length) (b : j < l2.length) (ht : l1.take j = l2.take j) (e : l1[j] = l2[j]) => take_next a b ht e)
    have T2 := Lib.hid (fun j (a : j < l1.length) (b : j < l2.length) (e : ¬ l1[j] = l2[j]) => show eqb l1 l2 = false from eqb_false fun h => e (by subst h; rfl))
    have T3 := Lib.hid (fun (ht : l1.take n1 = l2.take n1) => show eqb l1 l2 = true from eqb_true (by rw [List.take_of_length_le (by omega), List.take_of_length_le (by omega)] at ht; exact ht))
    generalize eqb l1 l2 = res at *
    have H1 := Lib.hid h1
    have H2 := Lib.hid h2
    have E1 := Lib.hid e1
    have E2 := Lib.hid e2
    have HB := Lib.hid hB
    clear h1 h2 e1 e2 hB
    go_enter Try.func42, Try.ntmps42
    go_wp2_with fail
    go_loopw [17] (fun s wr => ∃ j : Nat, j ≤ n1 ∧ s = .int .i64 j ∧ New w wr ∧ Hid (l1.take j = l2.take j)) (fun s _ => (n1 - intOf s).toNat)
    case atStart => exact ⟨0, Nat.zero_le _, rfl, Kept.refl _ _, Lib.hid rfl⟩
    case round =>
      obtain ⟨j, hj, rfl, hnr, D⟩ := hrel
      by_cases hlt : j < n1
      · have a1 : j < l1.length := by have := E1.out; omega
        have a2 : j < l2.length := by have := E2.out; omega
        obtain ⟨g1, o1, cs1, rfl, s1, hc1⟩ := R1.out j a1
        obtain ⟨g2, o2, cs2, rfl, s2, hc2⟩ := R2.out j a2
        obtain ⟨p0, p1, p2, rfl, -⟩ := (hc1 wr hnr).2
        obtain ⟨q0, q1, q2, rfl, -⟩ := (hc2 wr hnr).2
        obtain ⟨kx, -⟩ := hc1 wr hnr
        obtain ⟨ky, -⟩ := hc2 (wr.alloc (.cells #[.int .i64 l1[j].state, .int .i64 l1[j].pc, .int .i64 l1[j].r0, .int .i64 l1[j].r1, .int .i64 l1[j].r2, .int .i64 l1[j].r3, .int .i64 l1[j].r4, .int .i64 l1[j].r5, .int .i64 l1[j].r6, .int .i64 l1[j].r7, .int .i64 l1[j].cursor, .int .i64 l1[j].timer, .bool l1[j].fired, .int .i64 l1[j].wake, .slice p0 p1 p2] 49)) (hnr.alloc _)
        have zx0 := kx 0 (by decide)
        have zx1 := kx 1 (by decide)
        have zx2 := kx 2 (by decide)
        have zx3 := kx 3 (by decide)
        have zx4 := kx 4 (by decide)
        have zx5 := kx 5 (by decide)
        have zx6 := kx 6 (by decide)
        have zx7 := kx 7 (by decide)
        have zx8 := kx 8 (by decide)
        have zx9 := kx 9 (by decide)
        have zx10 := kx 10 (by decide)
        have zx11 := kx 11 (by decide)
        have zx12 := kx 12 (by decide)
        have zx13 := kx 13 (by decide)
        have zx14 := kx 14 (by decide)
        have zy0 := ky 0 (by decide)
        have zy1 := ky 1 (by decide)
        have zy2 := ky 2 (by decide)
        have zy3 := ky 3 (by decide)
        have zy4 := ky 4 (by decide)
        have zy5 := ky 5 (by decide)
        have zy6 := ky 6 (by decide)
        have zy7 := ky 7 (by decide)
        have zy8 := ky 8 (by decide)
        have zy9 := ky 9 (by decide)
        have zy10 := ky 10 (by decide)
        have zy11 := ky 11 (by decide)
        have zy12 := ky 12 (by decide)
        have zy13 := ky 13 (by decide)
        have zy14 := ky 14 (by decide)
        simp only [repProc, Nat.add_zero, Nat.mul_one, List.getElem?_cons_zero, List.getElem?_cons_succ] at zx0 zx1 zx2 zx3 zx4 zx5 zx6 zx7 zx8 zx9 zx10 zx11 zx12 zx13 zx14 zy0 zy1 zy2 zy3 zy4 zy5 zy6 zy7 zy8 zy9 zy10 zy11 zy12 zy13 zy14
        have HC := Lib.hid (fun W (hW : New w W) => same_proc (hc1 W hW).2 (hc2 W hW).2 (Nat.le_trans HB.out hW.size))
        have D2 := Lib.hid (fun e => T1.out j a1 a2 D.out e)
        have D3 := Lib.hid (fun e => T2.out j a1 a2 e)
        generalize l1[j] = u at *
        generalize l2[j] = v at *
        have f2 : (0 : Int) ≤ (j : Int) := by omega
        have f3 : (j : Int) < (n1 : Int) := by omega
        by_cases he : u = v
        · have D4 := Lib.hid (D2.out he)
          have HC2 : Hid (∀ W, New w W → Calls _ _ _ W fun e w' => e = .returned (.bool true) ∧ New W w') := Lib.hid fun W hW => by have := HC.out W hW; rw [eqb_true he] at this; exact this
          have HNR := Lib.hid hnr
          have A1 := Lib.hid a1
          have A2 := Lib.hid a2
          clear hnr a1 a2
          clear kx ky hc1 hc2 he
          go_wp2_with fail
          refine (HC2.out _ (by first | exact HNR.out | exact (HNR.out.alloc _).alloc _)).mono ?_
          rintro e w5 ⟨rfl, hn5⟩
          have hn5 : New w w5 := by first | exact HNR.out.trans hn5 | exact ((HNR.out.alloc _).alloc _).trans hn5
          have HN5 := Lib.hid hn5
          clear hn5
          go_wp2_with fail
          go_roundw
          case rel => exact ⟨j + 1, by omega, by go_num, HN5.out, D4⟩
          case measure => simp [intOf]; omega
        · have E := Lib.hid (D3.out he)
          have HC2 : Hid (∀ W, New w W → Calls _ _ _ W fun e w' => e = .returned (.bool false) ∧ New W w') := Lib.hid fun W hW => by have := HC.out W hW; rw [eqb_false he] at this; exact this
          have HNR := Lib.hid hnr
          have A1 := Lib.hid a1
          have A2 := Lib.hid a2
          clear hnr a1 a2
          clear kx ky hc1 hc2 he
          go_wp2_with fail
          refine (HC2.out _ (by first | exact HNR.out | exact (HNR.out.alloc _).alloc _)).mono ?_
          rintro e w5 ⟨rfl, hn5⟩
          have hn5 : New w w5 := by first | exact HNR.out.trans hn5 | exact ((HNR.out.alloc _).alloc _).trans hn5
          have HN5 := Lib.hid hn5
          clear hn5
          go_wp2_with fail
          go_ret
          exact ⟨by rw [E.out]; rfl, HN5.out⟩
      · obtain rfl : j = n1 := by omega
        have E := Lib.hid (T3.out D.out)
        have HNR := Lib.hid hnr
        clear hnr
        go_wp2_with fail
        go_ret
        exact ⟨by rw [E.out]; rfl, HNR.out⟩
  · have E := Lib.hid (show eqb l1 l2 = false from eqb_false fun h => hn (by rw [e1, e2, h]))
    have hn' : (n1 != n2) = true := by simpa using hn
    have hn2 : ((n1 : Int) != (n2 : Int)) = true := by simp; omega
    clear h1 h2 e1 e2 hn
    go_enter Try.func42, Try.ntmps42
    go_wp2_with fail
    go_ret
    exact ⟨by rw [E.out]; rfl, Kept.refl _ _⟩
theorem gsame_proc {w : World} {B : Nat} {A1 A2 : Option Addr} {n1 n2 c1 c2 : Nat} {l1 l2 : List (Process)} (h1 : SliceOf repProc w B A1 n1 c1 l1) (h2 : SliceOf repProc w B A2 n2 c2 l2) (hB : B ≤ w.heap.size) :
    Calls Try.prog 23 #[.slice A1 n1 c1, .slice A2 n2 c2, .func (.func 24) #[] #[]] w fun e w' => e = .returned (.bool (eqb l1 l2)) ∧ New w w' := by
  have h := eqf_proc h1 h2 hB
  generalize eqb l1 l2 = res at *
  have H := Lib.hid h
  clear h
  clear h1 h2
  go_enter Try.func23, Try.ntmps23
  go_wp2_with fail
  refine H.out.mono ?_
  rintro e w1 ⟨rfl, hn⟩
  have HN := Lib.hid hn
  clear hn
  go_wp2_with fail
  go_ret
  exact ⟨rfl, HN.out⟩
end Go.Proofs.Ytgdmajockejpgaa.View
