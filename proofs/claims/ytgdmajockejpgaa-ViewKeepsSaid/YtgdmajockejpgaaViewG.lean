/- The walks of package view's same.. (layer 18). -/
import Derived.Test.YtgdmajockejpgaaViewF
namespace Go.Proofs.Ytgdmajockejpgaa.View
open Go.RowKit Go.Fb
set_option linter.unusedVariables false
set_option maxHeartbeats 4000000 in
set_option maxRecDepth 100000 in
theorem same_lane {w : World} {B : Nat} {x y : Lane} {a0 a1 a2 a3 b0 b1 b2 b3 : Value} (h1 : repLane.cells w B x [a0, a1, a2, a3]) (h2 : repLane.cells w B y [b0, b1, b2, b3]) (hB : B ≤ w.heap.size) :
    Calls Try.prog 44 #[.agg #[a0, a1, a2, a3], .agg #[b0, b1, b2, b3]] w fun e w' => e = .returned (.bool (eqb x y)) ∧ New w w' := by
  obtain ⟨p0, p1, p2, p3, p4, p5, h1, s1x, s2x, -⟩ := h1
  obtain ⟨q0, q1, q2, q3, q4, q5, h2, s1y, s2y, -⟩ := h2
  simp only [List.cons.injEq, and_true] at h1 h2
  obtain ⟨rfl, rfl, rfl, rfl⟩ := h1
  obtain ⟨rfl, rfl, rfl, rfl⟩ := h2
  have C1 : Hid (∀ W, New w W → Calls _ _ _ W fun e w' => e = .returned (.bool (eqb x.values y.values)) ∧ New W w') := Lib.hid fun W hW => gsame_i64 (s1x.kept hW hB fun _ _ h => h) (s1y.kept hW hB fun _ _ h => h) (Nat.le_trans hB hW.size)
  have C2 : Hid (∀ W, New w W → Calls _ _ _ W fun e w' => e = .returned (.bool (eqb x.waiters y.waiters)) ∧ New W w') := Lib.hid fun W hW => gsame_waiter (s2x.kept hW hB fun _ _ h => h) (s2y.kept hW hB fun _ _ h => h) (Nat.le_trans hB hW.size)
  have HE : Hid (x.values = y.values → x.waiters = y.waiters → x.taken = y.taken → x.dropped = y.dropped → eqb x y = true) := Lib.hid fun _ _ _ _ => eqb_true (by cases x; cases y; simp_all)
  have Nvalues := Lib.hid (fun (h : ¬ x.values = y.values) => show eqb x y = false from eqb_false fun e => h (by rw [e]))
  have Nwaiters := Lib.hid (fun (h : ¬ x.waiters = y.waiters) => show eqb x y = false from eqb_false fun e => h (by rw [e]))
  have Ntaken := Lib.hid (fun (h : ¬ x.taken = y.taken) => show eqb x y = false from eqb_false fun e => h (by rw [e]))
  have Ndropped := Lib.hid (fun (h : ¬ x.dropped = y.dropped) => show eqb x y = false from eqb_false fun e => h (by rw [e]))
  have b1 : Blk ((w.alloc (.cells #[.slice p0 p1 p2, .slice p3 p4 p5, .int .i64 x.taken, .int .i64 x.dropped] 53)).alloc (.cells #[.slice q0 q1 q2, .slice q3 q4 q5, .int .i64 y.taken, .int .i64 y.dropped] 53)) w.heap.size 53 #[.slice p0 p1 p2, .slice p3 p4 p5, .int .i64 x.taken, .int .i64 x.dropped] := (Blk.made _ _ _).alloc _
  have b2 : Blk ((w.alloc (.cells #[.slice p0 p1 p2, .slice p3 p4 p5, .int .i64 x.taken, .int .i64 x.dropped] 53)).alloc (.cells #[.slice q0 q1 q2, .slice q3 q4 q5, .int .i64 y.taken, .int .i64 y.dropped] 53)) (w.heap.size + 1) 53 #[.slice q0 q1 q2, .slice q3 q4 q5, .int .i64 y.taken, .int .i64 y.dropped] := Blk.made_at _ _ _ _ (by simp)
  have hn : New w ((w.alloc (.cells #[.slice p0 p1 p2, .slice p3 p4 p5, .int .i64 x.taken, .int .i64 x.dropped] 53)).alloc (.cells #[.slice q0 q1 q2, .slice q3 q4 q5, .int .i64 y.taken, .int .i64 y.dropped] 53)) := ((Kept.refl _ _).alloc _).alloc _
  have ks1x := s1x.bound
  have ks1y := s1y.bound
  have ks2x := s2x.bound
  have ks2y := s2y.bound
  clear s1x s1y s2x s2y
  generalize eqb x y = res at *
  generalize x.values = xvalues at *
  generalize y.values = yvalues at *
  generalize x.waiters = xwaiters at *
  generalize y.waiters = ywaiters at *
  generalize x.taken = xtaken at *
  generalize y.taken = ytaken at *
  generalize x.dropped = xdropped at *
  generalize y.dropped = ydropped at *
  have B1 := Lib.hid b1
  have B2 := Lib.hid b2
  have HN := Lib.hid hn
  clear b1 b2 hn
  go_enter Try.func44, Try.ntmps44
  go_upto_region 1 with (fail)
  generalize ((w.alloc (.cells #[.slice p0 p1 p2, .slice p3 p4 p5, .int .i64 xtaken, .int .i64 xdropped] 53)).alloc (.cells #[.slice q0 q1 q2, .slice q3 q4 q5, .int .i64 ytaken, .int .i64 ydropped] 53)) = w2 at *
  generalize w.heap.size = g1 at *
  have u0 := B1.out.cell 0
  have u1 := B1.out.cell 1
  have u2 := B1.out.cell 2
  have u3 := B1.out.cell 3
  have v0 := B2.out.cell 0
  have v1 := B2.out.cell 1
  have v2 := B2.out.cell 2
  have v3 := B2.out.cell 3
  simp only [List.getElem?_toArray, List.getElem?_cons_zero, List.getElem?_cons_succ] at u0 u1 u2 u3 v0 v1 v2 v3
  by_cases evalues : xvalues = yvalues
  · have c1 := C1.out w2 HN.out
    rw [eqb_true evalues] at c1
    have D1 := Lib.hid c1
    clear c1
    go_wp2_with fail
    refine D1.out.mono ?_
    rintro e w3 ⟨rfl, m1⟩
    have M1 := Lib.hid (HN.out.trans m1)
    have B11 := Lib.hid (B1.out.kept m1 id)
    have B21 := Lib.hid (B2.out.kept m1 id)
    clear m1
    have u1 := B11.out.cell 1
    have u2 := B11.out.cell 2
    have u3 := B11.out.cell 3
    have v1 := B21.out.cell 1
    have v2 := B21.out.cell 2
    have v3 := B21.out.cell 3
    simp only [List.getElem?_toArray, List.getElem?_cons_zero, List.getElem?_cons_succ] at u1 u2 u3 v1 v2 v3
    by_cases ewaiters : xwaiters = ywaiters
    · have c2 := C2.out w3 M1.out
      rw [eqb_true ewaiters] at c2
      have D2 := Lib.hid c2
      clear c2
      go_wp2_with fail
      refine D2.out.mono ?_
      rintro e w4 ⟨rfl, m2⟩
      have M2 := Lib.hid (M1.out.trans m2)
      have B12 := Lib.hid (B11.out.kept m2 id)
      have B22 := Lib.hid (B21.out.kept m2 id)
      clear m2
      have u2 := B12.out.cell 2
      have u3 := B12.out.cell 3
      have v2 := B22.out.cell 2
      have v3 := B22.out.cell 3
      simp only [List.getElem?_toArray, List.getElem?_cons_zero, List.getElem?_cons_succ] at u2 u3 v2 v3
      by_cases etaken : xtaken = ytaken
      · subst etaken
        by_cases edropped : xdropped = ydropped
        · subst edropped
          have E := Lib.hid (HE.out evalues ewaiters (by first | rfl | trivial) (by first | rfl | trivial))
          go_wp2_with fail
          go_ret
          exact ⟨by rw [E.out]; rfl, M2.out⟩
        · have E := Lib.hid (Ndropped.out edropped)
          have ne : (xdropped == ydropped) = false := by simpa using edropped
          go_wp2_with fail
          go_ret
          exact ⟨by rw [E.out]; rfl, M2.out⟩
      · have E := Lib.hid (Ntaken.out etaken)
        have ne : (xtaken == ytaken) = false := by simpa using etaken
        go_wp2_with fail
        go_ret
        exact ⟨by rw [E.out]; rfl, M2.out⟩
    · have c2 := C2.out w3 M1.out
      rw [eqb_false ewaiters] at c2
      have D2 := Lib.hid c2
      clear c2
      have E := Lib.hid (Nwaiters.out ewaiters)
      go_wp2_with fail
      refine D2.out.mono ?_
      rintro e w4 ⟨rfl, m2⟩
      have M2 := Lib.hid (M1.out.trans m2)
      clear m2
      go_wp2_with fail
      go_ret
      exact ⟨by rw [E.out]; rfl, M2.out⟩
  · have c1 := C1.out w2 HN.out
    rw [eqb_false evalues] at c1
    have D1 := Lib.hid c1
    clear c1
    have E := Lib.hid (Nvalues.out evalues)
    go_wp2_with fail
    refine D1.out.mono ?_
    rintro e w3 ⟨rfl, m1⟩
    have M1 := Lib.hid (HN.out.trans m1)
    clear m1
    go_wp2_with fail
    go_ret
    exact ⟨by rw [E.out]; rfl, M1.out⟩
set_option maxHeartbeats 4000000 in
theorem eqf_lane {w : World} {B : Nat} {A1 A2 : Option Addr} {n1 n2 c1 c2 : Nat} {l1 l2 : List (Lane)} (h1 : SliceOf repLane w B A1 n1 c1 l1) (h2 : SliceOf repLane w B A2 n2 c2 l2) (hB : B ≤ w.heap.size) :
    Calls Try.prog 49 #[.slice A1 n1 c1, .slice A2 n2 c2, .func (.func 44) #[] #[]] w fun e w' => e = .returned (.bool (eqb l1 l2)) ∧ New w w' := by
  have e1 := h1.len
  have e2 := h2.len
  have b1 := h1.bound
  have b2 := h2.bound
  by_cases hn : n1 = n2
  · subst hn
    have R1 := Lib.hid (sl_here h1 hB)
    have R2 := Lib.hid (sl_here h2 hB)
    have T1 := Lib.hid (fun j (a : j < l1.length) (b : j < l2.length) (ht : l1.take j = l2.take j) (e : l1[j] = l2[j]) => take_next a b ht e)
    have T2 := Lib.hid (fun j (a : j < l1.length) (b : j < l2.length) (e : ¬ l1[j] = l2[j]) => show eqb l1 l2 = false from eqb_false fun h => e (by subst h; rfl))
    have T3 := Lib.hid (fun (ht : l1.take n1 = l2.take n1) => show eqb l1 l2 = true from eqb_true (by rw [List.take_of_length_le (by omega), List.take_of_length_le (by omega)] at ht; exact ht))
    generalize eqb l1 l2 = res at *
    have H1 := Lib.hid h1
    have H2 := Lib.hid h2
    have E1 := Lib.hid e1
    have E2 := Lib.hid e2
    have HB := Lib.hid hB
    clear h1 h2 e1 e2 hB
    go_enter Try.func49, Try.ntmps49
    go_wp2_with fail
    go_loopw [17] (fun s wr => ∃ j : Nat, j ≤ n1 ∧ s = .int .i64 j ∧ New w wr ∧ Hid (l1.take j = l2.take j)) (fun s _ => (n1 - intOf s).toNat)
    case atStart => exact ⟨0, Nat.zero_le _, rfl, Kept.refl _ _, Lib.hid rfl⟩
    case round =>
      obtain ⟨j, hj, rfl, hnr, D⟩ := hrel
      by_cases hlt : j < n1
      · have a1 : j < l1.length := by have := E1.out; omega
        have a2 : j < l2.length := by have := E2.out; omega
        obtain ⟨g1, o1, cs1, rfl, s1, hc1⟩ := R1.out j a1
        obtain ⟨g2, o2, cs2, rfl, s2, hc2⟩ := R2.out j a2
        obtain ⟨p0, p1, p2, p3, p4, p5, rfl, -⟩ := (hc1 wr hnr).2
        obtain ⟨q0, q1, q2, q3, q4, q5, rfl, -⟩ := (hc2 wr hnr).2
        obtain ⟨kx, -⟩ := hc1 wr hnr
        obtain ⟨ky, -⟩ := hc2 (wr.alloc (.cells #[.slice p0 p1 p2, .slice p3 p4 p5, .int .i64 l1[j].taken, .int .i64 l1[j].dropped] 53)) (hnr.alloc _)
        have zx0 := kx 0 (by decide)
        have zx1 := kx 1 (by decide)
        have zx2 := kx 2 (by decide)
        have zx3 := kx 3 (by decide)
        have zy0 := ky 0 (by decide)
        have zy1 := ky 1 (by decide)
        have zy2 := ky 2 (by decide)
        have zy3 := ky 3 (by decide)
        simp only [repLane, Nat.add_zero, Nat.mul_one, List.getElem?_cons_zero, List.getElem?_cons_succ] at zx0 zx1 zx2 zx3 zy0 zy1 zy2 zy3
        have HC := Lib.hid (fun W (hW : New w W) => same_lane (hc1 W hW).2 (hc2 W hW).2 (Nat.le_trans HB.out hW.size))
        have D2 := Lib.hid (fun e => T1.out j a1 a2 D.out e)
        have D3 := Lib.hid (fun e => T2.out j a1 a2 e)
        generalize l1[j] = u at *
        generalize l2[j] = v at *
        have f2 : (0 : Int) ≤ (j : Int) := by omega
        have f3 : (j : Int) < (n1 : Int) := by omega
        by_cases he : u = v
        · have D4 := Lib.hid (D2.out he)
          have HC2 : Hid (∀ W, New w W → Calls _ _ _ W fun e w' => e = .returned (.bool true) ∧ New W w') := Lib.hid fun W hW => by have := HC.out W hW; rw [eqb_true he] at this; exact this
          have HNR := Lib.hid hnr
          have A1 := Lib.hid a1
          have A2 := Lib.hid a2
          clear hnr a1 a2
          clear kx ky hc1 hc2 he
          go_wp2_with fail
          refine (HC2.out _ (by first | exact HNR.out | exact (HNR.out.alloc _).alloc _)).mono ?_
          rintro e w5 ⟨rfl, hn5⟩
          have hn5 : New w w5 := by first | exact HNR.out.trans hn5 | exact ((HNR.out.alloc _).alloc _).trans hn5
          have HN5 := Lib.hid hn5
          clear hn5
          go_wp2_with fail
          go_roundw
          case rel => exact ⟨j + 1, by omega, by go_num, HN5.out, D4⟩
          case measure => simp [intOf]; omega
        · have E := Lib.hid (D3.out he)
          have HC2 : Hid (∀ W, New w W → Calls _ _ _ W fun e w' => e = .returned (.bool false) ∧ New W w') := Lib.hid fun W hW => by have := HC.out W hW; rw [eqb_false he] at this; exact this
          have HNR := Lib.hid hnr
          have A1 := Lib.hid a1
          have A2 := Lib.hid a2
          clear hnr a1 a2
          clear kx ky hc1 hc2 he
          go_wp2_with fail
          refine (HC2.out _ (by first | exact HNR.out | exact (HNR.out.alloc _).alloc _)).mono ?_
          rintro e w5 ⟨rfl, hn5⟩
          have hn5 : New w w5 := by first | exact HNR.out.trans hn5 | exact ((HNR.out.alloc _).alloc _).trans hn5
          have HN5 := Lib.hid hn5
          clear hn5
          go_wp2_with fail
          go_ret
          exact ⟨by rw [E.out]; rfl, HN5.out⟩
      · obtain rfl : j = n1 := by omega
        have E := Lib.hid (T3.out D.out)
        have HNR := Lib.hid hnr
        clear hnr
        go_wp2_with fail
        go_ret
        exact ⟨by rw [E.out]; rfl, HNR.out⟩
  · have E := Lib.hid (show eqb l1 l2 = false from eqb_false fun h => hn (by rw [e1, e2, h]))
    have hn' : (n1 != n2) = true := by simpa using hn
    have hn2 : ((n1 : Int) != (n2 : Int)) = true := by simp; omega
    clear h1 h2 e1 e2 hn
    go_enter Try.func49, Try.ntmps49
    go_wp2_with fail
    go_ret
    exact ⟨by rw [E.out]; rfl, Kept.refl _ _⟩
theorem gsame_lane {w : World} {B : Nat} {A1 A2 : Option Addr} {n1 n2 c1 c2 : Nat} {l1 l2 : List (Lane)} (h1 : SliceOf repLane w B A1 n1 c1 l1) (h2 : SliceOf repLane w B A2 n2 c2 l2) (hB : B ≤ w.heap.size) :
    Calls Try.prog 43 #[.slice A1 n1 c1, .slice A2 n2 c2, .func (.func 44) #[] #[]] w fun e w' => e = .returned (.bool (eqb l1 l2)) ∧ New w w' := by
  have h := eqf_lane h1 h2 hB
  generalize eqb l1 l2 = res at *
  have H := Lib.hid h
  clear h
  clear h1 h2
  go_enter Try.func43, Try.ntmps43
  go_wp2_with fail
  refine H.out.mono ?_
  rintro e w1 ⟨rfl, hn⟩
  have HN := Lib.hid hn
  clear hn
  go_wp2_with fail
  go_ret
  exact ⟨rfl, HN.out⟩
end Go.Proofs.Ytgdmajockejpgaa.View
