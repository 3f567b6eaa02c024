/- The walks of the reference's Same (layer 18). -/
import Derived.Test.YtgdmajockejpgaaViewSa
namespace Go.Proofs.Ytgdmajockejpgaa.View
open Go.RowKit Go.Fb
set_option linter.unusedVariables false
set_option maxHeartbeats 4000000 in
set_option maxRecDepth 100000 in
theorem rsame_part {w : World} {B : Nat} {x y : Part} {a0 a1 a2 a3 a4 a5 b0 b1 b2 b3 b4 b5 : Value} (h1 : repPart.cells w B x [a0, a1, a2, a3, a4, a5]) (h2 : repPart.cells w B y [b0, b1, b2, b3, b4, b5]) (hB : B ≤ w.heap.size) :
    Calls Try.prog 15 #[.agg #[a0, a1, a2, a3, a4, a5], .agg #[b0, b1, b2, b3, b4, b5]] w fun e w' => e = .returned (.bool (eqb x y)) ∧ New w w' := by
  obtain ⟨p0, p1, p2, p3, p4, p5, p6, p7, p8, h1, s1x, s2x, s3x⟩ := h1
  obtain ⟨q0, q1, q2, q3, q4, q5, q6, q7, q8, h2, s1y, s2y, s3y⟩ := h2
  simp only [List.cons.injEq, and_true] at h1 h2
  obtain ⟨rfl, rfl, rfl, rfl, rfl, rfl⟩ := h1
  obtain ⟨rfl, rfl, rfl, rfl, rfl, rfl⟩ := h2
  have HE : Hid (x.cursor = y.cursor → x.lost = y.lost → x.forbidden = y.forbidden → x.log = y.log → x.owners = y.owners → x.queues = y.queues → eqb x y = true) := Lib.hid fun _ _ _ _ _ _ => eqb_true (by cases x; cases y; simp_all)
  have Ncursor := Lib.hid (fun (h : ¬ x.cursor = y.cursor) => show eqb x y = false from eqb_false fun e => h (by rw [e]))
  have Nlost := Lib.hid (fun (h : ¬ x.lost = y.lost) => show eqb x y = false from eqb_false fun e => h (by rw [e]))
  have Nforbidden := Lib.hid (fun (h : ¬ x.forbidden = y.forbidden) => show eqb x y = false from eqb_false fun e => h (by rw [e]))
  have Nlog := Lib.hid (fun (h : ¬ x.log = y.log) => show eqb x y = false from eqb_false fun e => h (by rw [e]))
  have Nowners := Lib.hid (fun (h : ¬ x.owners = y.owners) => show eqb x y = false from eqb_false fun e => h (by rw [e]))
  have Nqueues := Lib.hid (fun (h : ¬ x.queues = y.queues) => show eqb x y = false from eqb_false fun e => h (by rw [e]))
  have lx0 := s1x.len
  have ly0 := s1y.len
  have kx0 := s1x.bound
  have ky0 := s1y.bound
  have RX0 := Lib.hid (sl_here s1x hB)
  have RY0 := Lib.hid (sl_here s1y hB)
  have lx1 := s2x.len
  have ly1 := s2y.len
  have kx1 := s2x.bound
  have ky1 := s2y.bound
  have RX1 := Lib.hid (sl_here s2x hB)
  have RY1 := Lib.hid (sl_here s2y hB)
  have lx2 := s3x.len
  have ly2 := s3y.len
  have kx2 := s3x.bound
  have ky2 := s3y.bound
  have RX2 := Lib.hid (sl_here s3x hB)
  have RY2 := Lib.hid (sl_here s3y hB)
  have HOC := Lib.hid fun W (hW : New w W) => rints_any (s2x.kept hW hB fun _ _ h => h) (s2y.kept hW hB fun _ _ h => h) (Nat.le_trans hB hW.size)
  have b1 : Blk ((w.alloc (.cells #[.int .i64 x.cursor, .slice p0 p1 p2, .int .i64 x.lost, .int .i64 x.forbidden, .slice p3 p4 p5, .slice p6 p7 p8] 43)).alloc (.cells #[.int .i64 y.cursor, .slice q0 q1 q2, .int .i64 y.lost, .int .i64 y.forbidden, .slice q3 q4 q5, .slice q6 q7 q8] 43)) w.heap.size 43 #[.int .i64 x.cursor, .slice p0 p1 p2, .int .i64 x.lost, .int .i64 x.forbidden, .slice p3 p4 p5, .slice p6 p7 p8] := (Blk.made _ _ _).alloc _
  have b2 : Blk ((w.alloc (.cells #[.int .i64 x.cursor, .slice p0 p1 p2, .int .i64 x.lost, .int .i64 x.forbidden, .slice p3 p4 p5, .slice p6 p7 p8] 43)).alloc (.cells #[.int .i64 y.cursor, .slice q0 q1 q2, .int .i64 y.lost, .int .i64 y.forbidden, .slice q3 q4 q5, .slice q6 q7 q8] 43)) (w.heap.size + 1) 43 #[.int .i64 y.cursor, .slice q0 q1 q2, .int .i64 y.lost, .int .i64 y.forbidden, .slice q3 q4 q5, .slice q6 q7 q8] := Blk.made_at _ _ _ _ (by simp)
  have hn : New w ((w.alloc (.cells #[.int .i64 x.cursor, .slice p0 p1 p2, .int .i64 x.lost, .int .i64 x.forbidden, .slice p3 p4 p5, .slice p6 p7 p8] 43)).alloc (.cells #[.int .i64 y.cursor, .slice q0 q1 q2, .int .i64 y.lost, .int .i64 y.forbidden, .slice q3 q4 q5, .slice q6 q7 q8] 43)) := ((Kept.refl _ _).alloc _).alloc _
  clear s1x s1y s2x s2y s3x s3y
  generalize eqb x y = res at *
  generalize x.cursor = xcursor at *
  generalize y.cursor = ycursor at *
  generalize x.lost = xlost at *
  generalize y.lost = ylost at *
  generalize x.forbidden = xforbidden at *
  generalize y.forbidden = yforbidden at *
  generalize x.log = xlog at *
  generalize y.log = ylog at *
  generalize x.owners = xowners at *
  generalize y.owners = yowners at *
  generalize x.queues = xqueues at *
  generalize y.queues = yqueues at *
  have B1 := Lib.hid b1
  have B2 := Lib.hid b2
  have HN := Lib.hid hn
  have LX0 := Lib.hid lx0
  have LY0 := Lib.hid ly0
  have LX1 := Lib.hid lx1
  have LY1 := Lib.hid ly1
  have LX2 := Lib.hid lx2
  have LY2 := Lib.hid ly2
  have HBB := Lib.hid hB
  clear b1 b2 hn lx0 ly0 lx1 ly1 lx2 ly2 hB
  go_enter Try.func15, Try.ntmps15
  go_upto_region 1 with (fail)
  generalize ((w.alloc (.cells #[.int .i64 xcursor, .slice p0 p1 p2, .int .i64 xlost, .int .i64 xforbidden, .slice p3 p4 p5, .slice p6 p7 p8] 43)).alloc (.cells #[.int .i64 ycursor, .slice q0 q1 q2, .int .i64 ylost, .int .i64 yforbidden, .slice q3 q4 q5, .slice q6 q7 q8] 43)) = w2 at *
  generalize hg1 : w.heap.size = g1 at *
  have HGE := Lib.hid hg1
  clear hg1
  have hb1 := B1.out.kept (Kept.refl (fun _ => False) w2) id
  have hb2 := B2.out.kept (Kept.refl (fun _ => False) w2) id
  have u0 := hb1.cell 0
  have v0 := hb2.cell 0
  have u1 := hb1.cell 1
  have v1 := hb2.cell 1
  have u2 := hb1.cell 2
  have v2 := hb2.cell 2
  have u3 := hb1.cell 3
  have v3 := hb2.cell 3
  have u4 := hb1.cell 4
  have v4 := hb2.cell 4
  have u5 := hb1.cell 5
  have v5 := hb2.cell 5
  simp only [List.getElem?_toArray, List.getElem?_cons_zero, List.getElem?_cons_succ] at u0 v0 u1 v1 u2 v2 u3 v3 u4 v4 u5 v5
  clear hb1 hb2
  by_cases ecursor : xcursor = ycursor
  · subst ecursor
    by_cases elost : xlost = ylost
    · subst elost
      by_cases eforbidden : xforbidden = yforbidden
      · subst eforbidden
        by_cases eL0 : p1 = q1
        · subst eL0
          by_cases eL2 : p7 = q7
          · subst eL2
            go_wp2_with fail
            have HB0 := Lib.hid (Kept.refl (fun _ => False) w2)
            go_loopw [5] (fun t wr => ∃ j : Nat, j ≤ p1 ∧ t = .int .i64 j ∧ New w2 wr ∧ Hid (xlog.take j = ylog.take j)) (fun t _ => (p1 - intOf t).toNat)
            case atStart => exact ⟨0, Nat.zero_le _, rfl, HB0.out, Lib.hid rfl⟩
            case round =>
              obtain ⟨j, hj, rfl, hnr, D⟩ := hrel
              have hb1 := B1.out.kept hnr id
              have hb2 := B2.out.kept hnr id
              have u0 := hb1.cell 0
              have v0 := hb2.cell 0
              have u1 := hb1.cell 1
              have v1 := hb2.cell 1
              have u2 := hb1.cell 2
              have v2 := hb2.cell 2
              have u3 := hb1.cell 3
              have v3 := hb2.cell 3
              have u4 := hb1.cell 4
              have v4 := hb2.cell 4
              have u5 := hb1.cell 5
              have v5 := hb2.cell 5
              simp only [List.getElem?_toArray, List.getElem?_cons_zero, List.getElem?_cons_succ] at u0 v0 u1 v1 u2 v2 u3 v3 u4 v4 u5 v5
              clear hb1 hb2
              by_cases hlt : j < p1
              · have i1 : j < xlog.length := by have := LX0.out; omega
                have i2 : j < ylog.length := by have := LY0.out; omega
                obtain ⟨gx, ox, cx, rfl, -, hcx⟩ := RX0.out j i1
                obtain ⟨gy, oy, cy, rfl, -, hcy⟩ := RY0.out j i2
                have hnw := HN.out.trans hnr
                have TN := Lib.hid fun e => take_next i1 i2 D.out e
                have TF : Hid (¬ xlog[j] = ylog[j] → res = false) := Lib.hid fun e => Nlog.out fun h => e (by subst h; rfl)
                have f2 : (0 : Int) ≤ (j : Int) := by omega
                have f3 : (j : Int) < (p1 : Int) := by omega
                have cx2 := (hcx wr hnw).1
                have x3 := (hcx wr hnw).2.1
                subst x3
                change ∀ j', j' < 3 → wr.cell? ⟨gx, ox + j * 3 + j', none⟩ = _ at cx2
                have zx0 := cx2 0 (by decide)
                have zx1 := cx2 1 (by decide)
                have zx2 := cx2 2 (by decide)
                clear cx2
                have cy2 := (hcy wr hnw).1
                have y3 := (hcy wr hnw).2.1
                subst y3
                change ∀ j', j' < 3 → wr.cell? ⟨gy, oy + j * 3 + j', none⟩ = _ at cy2
                have zy0 := cy2 0 (by decide)
                have zy1 := cy2 1 (by decide)
                have zy2 := cy2 2 (by decide)
                clear cy2
                simp only [Nat.add_zero, Nat.mul_one, List.getElem?_cons_zero, List.getElem?_cons_succ] at zx0 zy0 zx1 zy1 zx2 zy2
                clear hcx hcy hnw
                generalize xlog[j] = ex at *
                generalize ylog[j] = ey at *
                by_cases he : ex = ey
                · subst he
                  have D2 := Lib.hid (TN.out rfl)
                  have HNR := Lib.hid hnr
                  have hq : ∀ W, (Op.equalIn 10000 _ _ _).run _ W = .ok true W := fun W => (eq3 ex.tick ex.proc ex.value ex.tick ex.proc ex.value W).trans (by simp)
                  clear hnr i1 i2
                  go_wp2_with fail
                  go_big_quiet (fail)
                  go_wp2_with fail
                  go_roundw
                  case rel => exact ⟨j + 1, by omega, by go_num, Kept.drewN HNR.out _, D2⟩
                  case measure => simp [intOf]; omega
                · have E := Lib.hid (TF.out he)
                  have hq : ∀ W, (Op.equalIn 10000 _ _ _).run _ W = .ok false W := fun W => (eq3 ex.tick ex.proc ex.value ey.tick ey.proc ey.value W).trans (by
                    congr 1; cases ex; cases ey; simp_all)
                  have hend := HN.out.trans hnr
                  have HEND := Lib.hid hend
                  clear hend
                  clear hnr he i1 i2
                  go_wp2_with fail
                  go_big_quiet (fail)
                  go_wp2_with fail
                  go_ret
                  exact ⟨by rw [E.out]; rfl, Kept.drewN HEND.out _⟩
              · obtain rfl : p1 = j := by omega
                have G0 : Hid (xlog = ylog) := Lib.hid (by
                  have h1 := D.out
                  rwa [List.take_of_length_le (by have := LX0.out; omega), List.take_of_length_le (by have := LY0.out; omega)] at h1)
                have HW0 := Lib.hid hnr
                clear hnr D
                go_wp2_with fail
                have HB1 := Lib.hid HW0.out
                go_loopw [6] (fun t wr => ∃ j : Nat, j ≤ p7 ∧ t = .int .i64 j ∧ New w2 wr ∧ Hid (xqueues.take j = yqueues.take j)) (fun t _ => (p7 - intOf t).toNat)
                case atStart => exact ⟨0, Nat.zero_le _, rfl, HB1.out, Lib.hid rfl⟩
                case round =>
                  obtain ⟨j, hj, rfl, hnr, D⟩ := hrel
                  have hb1 := B1.out.kept hnr id
                  have hb2 := B2.out.kept hnr id
                  have u0 := hb1.cell 0
                  have v0 := hb2.cell 0
                  have u1 := hb1.cell 1
                  have v1 := hb2.cell 1
                  have u2 := hb1.cell 2
                  have v2 := hb2.cell 2
                  have u3 := hb1.cell 3
                  have v3 := hb2.cell 3
                  have u4 := hb1.cell 4
                  have v4 := hb2.cell 4
                  have u5 := hb1.cell 5
                  have v5 := hb2.cell 5
                  simp only [List.getElem?_toArray, List.getElem?_cons_zero, List.getElem?_cons_succ] at u0 v0 u1 v1 u2 v2 u3 v3 u4 v4 u5 v5
                  clear hb1 hb2
                  by_cases hlt : j < p7
                  · have i1 : j < xqueues.length := by have := LX2.out; omega
                    have i2 : j < yqueues.length := by have := LY2.out; omega
                    obtain ⟨gx, ox, cx, rfl, -, hcx⟩ := RX2.out j i1
                    obtain ⟨gy, oy, cy, rfl, -, hcy⟩ := RY2.out j i2
                    have hnw := HN.out.trans hnr
                    have TN := Lib.hid fun e => take_next i1 i2 D.out e
                    have TF : Hid (¬ xqueues[j] = yqueues[j] → res = false) := Lib.hid fun e => Nqueues.out fun h => e (by subst h; rfl)
                    have f2 : (0 : Int) ≤ (j : Int) := by omega
                    have f3 : (j : Int) < (p7 : Int) := by omega
                    obtain ⟨c0, c1, c2, rfl, -⟩ := (hcx wr hnw).2
                    have cx2 := (hcx wr hnw).1
                    change ∀ j', j' < 1 → wr.cell? ⟨gx, ox + j * 1 + j', none⟩ = _ at cx2
                    have zx0 := cx2 0 (by decide)
                    clear cx2
                    obtain ⟨d0, d1, d2, rfl, -⟩ := (hcy wr hnw).2
                    have cy2 := (hcy wr hnw).1
                    change ∀ j', j' < 1 → wr.cell? ⟨gy, oy + j * 1 + j', none⟩ = _ at cy2
                    have zy0 := cy2 0 (by decide)
                    clear cy2
                    simp only [Nat.add_zero, Nat.mul_one, List.getElem?_cons_zero, List.getElem?_cons_succ] at zx0 zy0
                    have HC := Lib.hid fun W (hW : New w W) => rsame_ints (hcx W hW).2 (hcy W hW).2 (by have h1 := HBB.out; have h2 := HGE.out; have h3 := hW.size; omega)
                    clear hcx hcy
                    generalize xqueues[j] = ex at *
                    generalize yqueues[j] = ey at *
                    have HNR := Lib.hid hnr
                    have HNW : Hid (New w wr.drew) := Lib.hid hnw.drew
                    clear hnr hnw i1 i2
                    go_upto_region 11 with (fail)
                    go_still_tail 10, (by kernel_rfl)
                    change wpList _ _ _ _ _ wr.drew
                    have hc := HC.out wr.drew HNW.out
                    by_cases he : ex = ey
                    · rw [eqb_true he] at hc
                      have D2 := Lib.hid (TN.out he)
                      have HCC := Lib.hid hc
                      clear hc
                      have HNR2 : Hid (New w2 wr.drew) := Lib.hid HNR.out.drew
                      clear he
                      generalize wr.drew = w3 at *
                      go_wp2_with fail
                      refine HCC.out.mono ?_
                      rintro e w4 ⟨rfl, hm4⟩
                      have hm4 := HNR2.out.trans hm4
                      have HM4 := Lib.hid hm4
                      clear hm4
                      go_wp2_with fail
                      go_roundw
                      case rel => exact ⟨j + 1, by omega, by go_num, HM4.out, D2⟩
                      case measure => simp [intOf]; omega
                    · rw [eqb_false he] at hc
                      have E := Lib.hid (TF.out he)
                      have HCC := Lib.hid hc
                      clear hc
                      have HNR2 : Hid (New w2 wr.drew) := Lib.hid HNR.out.drew
                      clear he
                      generalize wr.drew = w3 at *
                      go_wp2_with fail
                      refine HCC.out.mono ?_
                      rintro e w4 ⟨rfl, hm4⟩
                      have hm4 := HN.out.trans (HNR2.out.trans hm4)
                      have HM4 := Lib.hid hm4
                      clear hm4
                      go_wp2_with fail
                      go_ret
                      exact ⟨by rw [E.out]; rfl, HM4.out⟩
                  · obtain rfl : p7 = j := by omega
                    have G1 : Hid (xqueues = yqueues) := Lib.hid (by
                      have h1 := D.out
                      rwa [List.take_of_length_le (by have := LX2.out; omega), List.take_of_length_le (by have := LY2.out; omega)] at h1)
                    have HW1 := Lib.hid hnr
                    clear hnr D
                    skip
                    have hb1 := B1.out.kept HW1.out id
                    have hb2 := B2.out.kept HW1.out id
                    have u0 := hb1.cell 0
                    have v0 := hb2.cell 0
                    have u1 := hb1.cell 1
                    have v1 := hb2.cell 1
                    have u2 := hb1.cell 2
                    have v2 := hb2.cell 2
                    have u3 := hb1.cell 3
                    have v3 := hb2.cell 3
                    have u4 := hb1.cell 4
                    have v4 := hb2.cell 4
                    have u5 := hb1.cell 5
                    have v5 := hb2.cell 5
                    simp only [List.getElem?_toArray, List.getElem?_cons_zero, List.getElem?_cons_succ] at u0 v0 u1 v1 u2 v2 u3 v3 u4 v4 u5 v5
                    clear hb1 hb2
                    have hoc := HOC.out _ (HN.out.trans HW1.out)
                    have hend := HN.out.trans HW1.out
                    have HEND := Lib.hid hend
                    clear hend
                    by_cases eo : xowners = yowners
                    · rw [eqb_true eo] at hoc
                      have E := Lib.hid (HE.out (by first | rfl | trivial) (by first | rfl | trivial) (by first | rfl | trivial) G0.out eo G1.out)
                      have HOC := Lib.hid hoc
                      clear hoc
                      clear eo
                      go_wp2_with fail
                      refine HOC.out.mono ?_
                      rintro e wz ⟨rfl, hmz⟩
                      have hfin := HEND.out.trans hmz
                      have HFIN := Lib.hid hfin
                      clear hfin
                      clear hmz
                      go_wp2_with fail
                      go_ret
                      exact ⟨by rw [E.out]; rfl, HFIN.out⟩
                    · rw [eqb_false eo] at hoc
                      have E := Lib.hid (Nowners.out eo)
                      have HOC := Lib.hid hoc
                      clear hoc
                      clear eo
                      go_wp2_with fail
                      refine HOC.out.mono ?_
                      rintro e wz ⟨rfl, hmz⟩
                      have hfin := HEND.out.trans hmz
                      have HFIN := Lib.hid hfin
                      clear hfin
                      clear hmz
                      go_wp2_with fail
                      go_ret
                      exact ⟨by rw [E.out]; rfl, HFIN.out⟩
          · have E := Lib.hid (Nqueues.out fun h => eL2 (by rw [LX2.out, LY2.out, h]))
            have ne1 : (p7 != q7) = true := by simpa using eL2
            have ne2 : ((p7 : Int) != (q7 : Int)) = true := by simp; omega
            clear eL2
            go_wp2_with fail
            all_goals
              go_ret
              exact ⟨by rw [E.out]; rfl, HN.out⟩
        · have E := Lib.hid (Nlog.out fun h => eL0 (by rw [LX0.out, LY0.out, h]))
          have ne1 : (p1 != q1) = true := by simpa using eL0
          have ne2 : ((p1 : Int) != (q1 : Int)) = true := by simp; omega
          clear eL0
          go_wp2_with fail
          all_goals
            go_ret
            exact ⟨by rw [E.out]; rfl, HN.out⟩
      · have E := Lib.hid (Nforbidden.out eforbidden)
        have ne : (xforbidden != yforbidden) = true := by simpa using eforbidden
        clear eforbidden
        go_wp2_with fail
        all_goals
          go_ret
          exact ⟨by rw [E.out]; rfl, HN.out⟩
    · have E := Lib.hid (Nlost.out elost)
      have ne : (xlost != ylost) = true := by simpa using elost
      clear elost
      go_wp2_with fail
      all_goals
        go_ret
        exact ⟨by rw [E.out]; rfl, HN.out⟩
  · have E := Lib.hid (Ncursor.out ecursor)
    have ne : (xcursor != ycursor) = true := by simpa using ecursor
    clear ecursor
    go_wp2_with fail
    all_goals
      go_ret
      exact ⟨by rw [E.out]; rfl, HN.out⟩
end Go.Proofs.Ytgdmajockejpgaa.View
