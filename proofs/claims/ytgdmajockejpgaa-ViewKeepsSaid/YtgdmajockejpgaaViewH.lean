/- The walks of package view's same.. (layer 18). -/
import Derived.Test.YtgdmajockejpgaaViewF
namespace Go.Proofs.Ytgdmajockejpgaa.View
open Go.RowKit Go.Fb
set_option linter.unusedVariables false
set_option maxHeartbeats 4000000 in
set_option maxRecDepth 100000 in
theorem same_part {w : World} {B : Nat} {x y : Part} {a0 a1 a2 a3 a4 a5 b0 b1 b2 b3 b4 b5 : Value} (h1 : repPart.cells w B x [a0, a1, a2, a3, a4, a5]) (h2 : repPart.cells w B y [b0, b1, b2, b3, b4, b5]) (hB : B ≤ w.heap.size) :
    Calls Try.prog 22 #[.agg #[a0, a1, a2, a3, a4, a5], .agg #[b0, b1, b2, b3, b4, b5]] w fun e w' => e = .returned (.bool (eqb x y)) ∧ New w w' := by
  obtain ⟨p0, p1, p2, p3, p4, p5, p6, p7, p8, h1, s1x, s2x, s3x⟩ := h1
  obtain ⟨q0, q1, q2, q3, q4, q5, q6, q7, q8, h2, s1y, s2y, s3y⟩ := h2
  simp only [List.cons.injEq, and_true] at h1 h2
  obtain ⟨rfl, rfl, rfl, rfl, rfl, rfl⟩ := h1
  obtain ⟨rfl, rfl, rfl, rfl, rfl, rfl⟩ := h2
  have C1 : Hid (∀ W, New w W → Calls _ _ _ W fun e w' => e = .returned (.bool (eqb x.log y.log)) ∧ New W w') := Lib.hid fun W hW => gsame_entry (s1x.kept hW hB fun _ _ h => h) (s1y.kept hW hB fun _ _ h => h) (Nat.le_trans hB hW.size)
  have C2 : Hid (∀ W, New w W → Calls _ _ _ W fun e w' => e = .returned (.bool (eqb x.owners y.owners)) ∧ New W w') := Lib.hid fun W hW => gsame_int (s2x.kept hW hB fun _ _ h => h) (s2y.kept hW hB fun _ _ h => h) (Nat.le_trans hB hW.size)
  have C3 : Hid (∀ W, New w W → Calls _ _ _ W fun e w' => e = .returned (.bool (eqb x.queues y.queues)) ∧ New W w') := Lib.hid fun W hW => gsame_ints (s3x.kept hW hB fun _ _ h => h) (s3y.kept hW hB fun _ _ h => h) (Nat.le_trans hB hW.size)
  have HE : Hid (x.cursor = y.cursor → x.log = y.log → x.lost = y.lost → x.forbidden = y.forbidden → x.owners = y.owners → x.queues = y.queues → eqb x y = true) := Lib.hid fun _ _ _ _ _ _ => eqb_true (by cases x; cases y; simp_all)
  have Ncursor := Lib.hid (fun (h : ¬ x.cursor = y.cursor) => show eqb x y = false from eqb_false fun e => h (by rw [e]))
  have Nlog := Lib.hid (fun (h : ¬ x.log = y.log) => show eqb x y = false from eqb_false fun e => h (by rw [e]))
  have Nlost := Lib.hid (fun (h : ¬ x.lost = y.lost) => show eqb x y = false from eqb_false fun e => h (by rw [e]))
  have Nforbidden := Lib.hid (fun (h : ¬ x.forbidden = y.forbidden) => show eqb x y = false from eqb_false fun e => h (by rw [e]))
  have Nowners := Lib.hid (fun (h : ¬ x.owners = y.owners) => show eqb x y = false from eqb_false fun e => h (by rw [e]))
  have Nqueues := Lib.hid (fun (h : ¬ x.queues = y.queues) => show eqb x y = false from eqb_false fun e => h (by rw [e]))
  have b1 : Blk ((w.alloc (.cells #[.int .i64 x.cursor, .slice p0 p1 p2, .int .i64 x.lost, .int .i64 x.forbidden, .slice p3 p4 p5, .slice p6 p7 p8] 43)).alloc (.cells #[.int .i64 y.cursor, .slice q0 q1 q2, .int .i64 y.lost, .int .i64 y.forbidden, .slice q3 q4 q5, .slice q6 q7 q8] 43)) w.heap.size 43 #[.int .i64 x.cursor, .slice p0 p1 p2, .int .i64 x.lost, .int .i64 x.forbidden, .slice p3 p4 p5, .slice p6 p7 p8] := (Blk.made _ _ _).alloc _
  have b2 : Blk ((w.alloc (.cells #[.int .i64 x.cursor, .slice p0 p1 p2, .int .i64 x.lost, .int .i64 x.forbidden, .slice p3 p4 p5, .slice p6 p7 p8] 43)).alloc (.cells #[.int .i64 y.cursor, .slice q0 q1 q2, .int .i64 y.lost, .int .i64 y.forbidden, .slice q3 q4 q5, .slice q6 q7 q8] 43)) (w.heap.size + 1) 43 #[.int .i64 y.cursor, .slice q0 q1 q2, .int .i64 y.lost, .int .i64 y.forbidden, .slice q3 q4 q5, .slice q6 q7 q8] := Blk.made_at _ _ _ _ (by simp)
  have hn : New w ((w.alloc (.cells #[.int .i64 x.cursor, .slice p0 p1 p2, .int .i64 x.lost, .int .i64 x.forbidden, .slice p3 p4 p5, .slice p6 p7 p8] 43)).alloc (.cells #[.int .i64 y.cursor, .slice q0 q1 q2, .int .i64 y.lost, .int .i64 y.forbidden, .slice q3 q4 q5, .slice q6 q7 q8] 43)) := ((Kept.refl _ _).alloc _).alloc _
  have ks1x := s1x.bound
  have ks1y := s1y.bound
  have ks2x := s2x.bound
  have ks2y := s2y.bound
  have ks3x := s3x.bound
  have ks3y := s3y.bound
  clear s1x s1y s2x s2y s3x s3y
  generalize eqb x y = res at *
  generalize x.cursor = xcursor at *
  generalize y.cursor = ycursor at *
  generalize x.log = xlog at *
  generalize y.log = ylog at *
  generalize x.lost = xlost at *
  generalize y.lost = ylost at *
  generalize x.forbidden = xforbidden at *
  generalize y.forbidden = yforbidden at *
  generalize x.owners = xowners at *
  generalize y.owners = yowners at *
  generalize x.queues = xqueues at *
  generalize y.queues = yqueues at *
  have B1 := Lib.hid b1
  have B2 := Lib.hid b2
  have HN := Lib.hid hn
  clear b1 b2 hn
  go_enter Try.func22, Try.ntmps22
  go_upto_region 1 with (fail)
  generalize ((w.alloc (.cells #[.int .i64 xcursor, .slice p0 p1 p2, .int .i64 xlost, .int .i64 xforbidden, .slice p3 p4 p5, .slice p6 p7 p8] 43)).alloc (.cells #[.int .i64 ycursor, .slice q0 q1 q2, .int .i64 ylost, .int .i64 yforbidden, .slice q3 q4 q5, .slice q6 q7 q8] 43)) = w2 at *
  generalize w.heap.size = g1 at *
  have u0 := B1.out.cell 0
  have u1 := B1.out.cell 1
  have u2 := B1.out.cell 2
  have u3 := B1.out.cell 3
  have u4 := B1.out.cell 4
  have u5 := B1.out.cell 5
  have v0 := B2.out.cell 0
  have v1 := B2.out.cell 1
  have v2 := B2.out.cell 2
  have v3 := B2.out.cell 3
  have v4 := B2.out.cell 4
  have v5 := B2.out.cell 5
  simp only [List.getElem?_toArray, List.getElem?_cons_zero, List.getElem?_cons_succ] at u0 u1 u2 u3 u4 u5 v0 v1 v2 v3 v4 v5
  by_cases ecursor : xcursor = ycursor
  · subst ecursor
    by_cases elog : xlog = ylog
    · have c1 := C1.out w2 HN.out
      rw [eqb_true elog] at c1
      have D1 := Lib.hid c1
      clear c1
      go_wp2_with fail
      refine D1.out.mono ?_
      rintro e w3 ⟨rfl, m1⟩
      have M1 := Lib.hid (HN.out.trans m1)
      have B11 := Lib.hid (B1.out.kept m1 id)
      have B21 := Lib.hid (B2.out.kept m1 id)
      clear m1
      have u2 := B11.out.cell 2
      have u3 := B11.out.cell 3
      have u4 := B11.out.cell 4
      have u5 := B11.out.cell 5
      have v2 := B21.out.cell 2
      have v3 := B21.out.cell 3
      have v4 := B21.out.cell 4
      have v5 := B21.out.cell 5
      simp only [List.getElem?_toArray, List.getElem?_cons_zero, List.getElem?_cons_succ] at u2 u3 u4 u5 v2 v3 v4 v5
      by_cases elost : xlost = ylost
      · subst elost
        by_cases eforbidden : xforbidden = yforbidden
        · subst eforbidden
          by_cases eowners : xowners = yowners
          · have c2 := C2.out w3 M1.out
            rw [eqb_true eowners] at c2
            have D2 := Lib.hid c2
            clear c2
            go_wp2_with fail
            refine D2.out.mono ?_
            rintro e w4 ⟨rfl, m2⟩
            have M2 := Lib.hid (M1.out.trans m2)
            have B12 := Lib.hid (B11.out.kept m2 id)
            have B22 := Lib.hid (B21.out.kept m2 id)
            clear m2
            have u5 := B12.out.cell 5
            have v5 := B22.out.cell 5
            simp only [List.getElem?_toArray, List.getElem?_cons_zero, List.getElem?_cons_succ] at u5 v5
            by_cases equeues : xqueues = yqueues
            · have c3 := C3.out w4 M2.out
              rw [eqb_true equeues] at c3
              have D3 := Lib.hid c3
              clear c3
              go_wp2_with fail
              refine D3.out.mono ?_
              rintro e w5 ⟨rfl, m3⟩
              have M3 := Lib.hid (M2.out.trans m3)
              clear m3
              have E := Lib.hid (HE.out (by first | rfl | trivial) elog (by first | rfl | trivial) (by first | rfl | trivial) eowners equeues)
              go_wp2_with fail
              go_ret
              exact ⟨by rw [E.out]; rfl, M3.out⟩
            · have c3 := C3.out w4 M2.out
              rw [eqb_false equeues] at c3
              have D3 := Lib.hid c3
              clear c3
              have E := Lib.hid (Nqueues.out equeues)
              go_wp2_with fail
              refine D3.out.mono ?_
              rintro e w5 ⟨rfl, m3⟩
              have M3 := Lib.hid (M2.out.trans m3)
              clear m3
              go_wp2_with fail
              go_ret
              exact ⟨by rw [E.out]; rfl, M3.out⟩
          · have c2 := C2.out w3 M1.out
            rw [eqb_false eowners] at c2
            have D2 := Lib.hid c2
            clear c2
            have E := Lib.hid (Nowners.out eowners)
            go_wp2_with fail
            refine D2.out.mono ?_
            rintro e w4 ⟨rfl, m2⟩
            have M2 := Lib.hid (M1.out.trans m2)
            clear m2
            go_wp2_with fail
            go_ret
            exact ⟨by rw [E.out]; rfl, M2.out⟩
        · have E := Lib.hid (Nforbidden.out eforbidden)
          have ne : (xforbidden == yforbidden) = false := by simpa using eforbidden
          go_wp2_with fail
          go_ret
          exact ⟨by rw [E.out]; rfl, M1.out⟩
      · have E := Lib.hid (Nlost.out elost)
        have ne : (xlost == ylost) = false := by simpa using elost
        go_wp2_with fail
        go_ret
        exact ⟨by rw [E.out]; rfl, M1.out⟩
    · have c1 := C1.out w2 HN.out
      rw [eqb_false elog] at c1
      have D1 := Lib.hid c1
      clear c1
      have E := Lib.hid (Nlog.out elog)
      go_wp2_with fail
      refine D1.out.mono ?_
      rintro e w3 ⟨rfl, m1⟩
      have M1 := Lib.hid (HN.out.trans m1)
      clear m1
      go_wp2_with fail
      go_ret
      exact ⟨by rw [E.out]; rfl, M1.out⟩
  · have E := Lib.hid (Ncursor.out ecursor)
    have ne : (xcursor == ycursor) = false := by simpa using ecursor
    go_wp2_with fail
    go_ret
    exact ⟨by rw [E.out]; rfl, HN.out⟩
end Go.Proofs.Ytgdmajockejpgaa.View
