/- The walks of the reference's Same (layer 18). -/
import Derived.Test.YtgdmajockejpgaaViewSb
import Derived.Test.YtgdmajockejpgaaViewSc
import Derived.Test.YtgdmajockejpgaaViewL
namespace Go.Proofs.Ytgdmajockejpgaa.View
open Go.RowKit Go.Fb
set_option linter.unusedVariables false
set_option maxHeartbeats 4000000 in
set_option maxRecDepth 100000 in
theorem rsame_state {w : World} {B : Nat} {x y : State} {a0 a1 a2 b0 b1 b2 : Value} (h1 : repState.cells w B x [a0, a1, a2]) (h2 : repState.cells w B y [b0, b1, b2]) (hB : B ≤ w.heap.size) :
    Calls Try.prog 8 #[.agg #[a0, a1, a2], .agg #[b0, b1, b2]] w fun e w' => e = .returned (.bool (eqb x y)) ∧ New w w' := by
  obtain ⟨p0, p1, p2, p3, p4, p5, h1, s1x, s2x⟩ := h1
  obtain ⟨q0, q1, q2, q3, q4, q5, h2, s1y, s2y⟩ := h2
  simp only [List.cons.injEq, and_true] at h1 h2
  obtain ⟨rfl, rfl, rfl⟩ := h1
  obtain ⟨rfl, rfl, rfl⟩ := h2
  have HE : Hid (x.tick = y.tick → x.parts = y.parts → x.procs = y.procs → eqb x y = true) := Lib.hid fun _ _ _ => eqb_true (by cases x; cases y; simp_all)
  have Ntick := Lib.hid (fun (h : ¬ x.tick = y.tick) => show eqb x y = false from eqb_false fun e => h (by rw [e]))
  have Nparts := Lib.hid (fun (h : ¬ x.parts = y.parts) => show eqb x y = false from eqb_false fun e => h (by rw [e]))
  have Nprocs := Lib.hid (fun (h : ¬ x.procs = y.procs) => show eqb x y = false from eqb_false fun e => h (by rw [e]))
  have lx0 := s1x.len
  have ly0 := s1y.len
  have kx0 := s1x.bound
  have ky0 := s1y.bound
  have RX0 := Lib.hid (sl_here s1x hB)
  have RY0 := Lib.hid (sl_here s1y hB)
  have lx1 := s2x.len
  have ly1 := s2y.len
  have kx1 := s2x.bound
  have ky1 := s2y.bound
  have RX1 := Lib.hid (sl_here s2x hB)
  have RY1 := Lib.hid (sl_here s2y hB)
  have b1 : Blk ((w.alloc (.cells #[.int .i64 x.tick, .slice p0 p1 p2, .slice p3 p4 p5] 30)).alloc (.cells #[.int .i64 y.tick, .slice q0 q1 q2, .slice q3 q4 q5] 30)) w.heap.size 30 #[.int .i64 x.tick, .slice p0 p1 p2, .slice p3 p4 p5] := (Blk.made _ _ _).alloc _
  have b2 : Blk ((w.alloc (.cells #[.int .i64 x.tick, .slice p0 p1 p2, .slice p3 p4 p5] 30)).alloc (.cells #[.int .i64 y.tick, .slice q0 q1 q2, .slice q3 q4 q5] 30)) (w.heap.size + 1) 30 #[.int .i64 y.tick, .slice q0 q1 q2, .slice q3 q4 q5] := Blk.made_at _ _ _ _ (by simp)
  have hn : New w ((w.alloc (.cells #[.int .i64 x.tick, .slice p0 p1 p2, .slice p3 p4 p5] 30)).alloc (.cells #[.int .i64 y.tick, .slice q0 q1 q2, .slice q3 q4 q5] 30)) := ((Kept.refl _ _).alloc _).alloc _
  clear s1x s1y s2x s2y
  generalize eqb x y = res at *
  generalize x.tick = xtick at *
  generalize y.tick = ytick at *
  generalize x.parts = xparts at *
  generalize y.parts = yparts at *
  generalize x.procs = xprocs at *
  generalize y.procs = yprocs at *
  have B1 := Lib.hid b1
  have B2 := Lib.hid b2
  have HN := Lib.hid hn
  have LX0 := Lib.hid lx0
  have LY0 := Lib.hid ly0
  have LX1 := Lib.hid lx1
  have LY1 := Lib.hid ly1
  have HBB := Lib.hid hB
  clear b1 b2 hn lx0 ly0 lx1 ly1 hB
  go_enter Try.func8, Try.ntmps8
  go_upto_region 1 with (fail)
  generalize ((w.alloc (.cells #[.int .i64 xtick, .slice p0 p1 p2, .slice p3 p4 p5] 30)).alloc (.cells #[.int .i64 ytick, .slice q0 q1 q2, .slice q3 q4 q5] 30)) = w2 at *
  generalize hg1 : w.heap.size = g1 at *
  have HGE := Lib.hid hg1
  clear hg1
  have hb1 := B1.out.kept (Kept.refl (fun _ => False) w2) id
  have hb2 := B2.out.kept (Kept.refl (fun _ => False) w2) id
  have u0 := hb1.cell 0
  have v0 := hb2.cell 0
  have u1 := hb1.cell 1
  have v1 := hb2.cell 1
  have u2 := hb1.cell 2
  have v2 := hb2.cell 2
  simp only [List.getElem?_toArray, List.getElem?_cons_zero, List.getElem?_cons_succ] at u0 v0 u1 v1 u2 v2
  clear hb1 hb2
  by_cases etick : xtick = ytick
  · subst etick
    by_cases eL0 : p1 = q1
    · subst eL0
      by_cases eL1 : p4 = q4
      · subst eL1
        go_wp2_with fail
        have HB0 := Lib.hid (Kept.refl (fun _ => False) w2)
        go_loopw [5] (fun t wr => ∃ j : Nat, j ≤ p1 ∧ t = .int .i64 j ∧ New w2 wr ∧ Hid (xparts.take j = yparts.take j)) (fun t _ => (p1 - intOf t).toNat)
        case atStart => exact ⟨0, Nat.zero_le _, rfl, HB0.out, Lib.hid rfl⟩
        case round =>
          obtain ⟨j, hj, rfl, hnr, D⟩ := hrel
          have hb1 := B1.out.kept hnr id
          have hb2 := B2.out.kept hnr id
          have u0 := hb1.cell 0
          have v0 := hb2.cell 0
          have u1 := hb1.cell 1
          have v1 := hb2.cell 1
          have u2 := hb1.cell 2
          have v2 := hb2.cell 2
          simp only [List.getElem?_toArray, List.getElem?_cons_zero, List.getElem?_cons_succ] at u0 v0 u1 v1 u2 v2
          clear hb1 hb2
          by_cases hlt : j < p1
          · have i1 : j < xparts.length := by have := LX0.out; omega
            have i2 : j < yparts.length := by have := LY0.out; omega
            obtain ⟨gx, ox, cx, rfl, -, hcx⟩ := RX0.out j i1
            obtain ⟨gy, oy, cy, rfl, -, hcy⟩ := RY0.out j i2
            have hnw := HN.out.trans hnr
            have TN := Lib.hid fun e => take_next i1 i2 D.out e
            have TF : Hid (¬ xparts[j] = yparts[j] → res = false) := Lib.hid fun e => Nparts.out fun h => e (by subst h; rfl)
            have f2 : (0 : Int) ≤ (j : Int) := by omega
            have f3 : (j : Int) < (p1 : Int) := by omega
            obtain ⟨c0, c1, c2, c3, c4, c5, c6, c7, c8, rfl, -⟩ := (hcx wr hnw).2
            have cx2 := (hcx wr hnw).1
            change ∀ j', j' < 6 → wr.cell? ⟨gx, ox + j * 6 + j', none⟩ = _ at cx2
            have zx0 := cx2 0 (by decide)
            have zx1 := cx2 1 (by decide)
            have zx2 := cx2 2 (by decide)
            have zx3 := cx2 3 (by decide)
            have zx4 := cx2 4 (by decide)
            have zx5 := cx2 5 (by decide)
            clear cx2
            obtain ⟨d0, d1, d2, d3, d4, d5, d6, d7, d8, rfl, -⟩ := (hcy wr hnw).2
            have cy2 := (hcy wr hnw).1
            change ∀ j', j' < 6 → wr.cell? ⟨gy, oy + j * 6 + j', none⟩ = _ at cy2
            have zy0 := cy2 0 (by decide)
            have zy1 := cy2 1 (by decide)
            have zy2 := cy2 2 (by decide)
            have zy3 := cy2 3 (by decide)
            have zy4 := cy2 4 (by decide)
            have zy5 := cy2 5 (by decide)
            clear cy2
            simp only [Nat.add_zero, Nat.mul_one, List.getElem?_cons_zero, List.getElem?_cons_succ] at zx0 zy0 zx1 zy1 zx2 zy2 zx3 zy3 zx4 zy4 zx5 zy5
            have HC := Lib.hid fun W (hW : New w W) => rsame_part (hcx W hW).2 (hcy W hW).2 (by have h1 := HBB.out; have h2 := HGE.out; have h3 := hW.size; omega)
            clear hcx hcy
            generalize xparts[j] = ex at *
            generalize yparts[j] = ey at *
            have HNR := Lib.hid hnr
            have HNW : Hid (New w wr.drew) := Lib.hid hnw.drew
            clear hnr hnw i1 i2
            go_upto_region 6 with (fail)
            go_still_tail 10, (by kernel_rfl)
            change wpList _ _ _ _ _ wr.drew
            have hc := HC.out wr.drew HNW.out
            by_cases he : ex = ey
            · rw [eqb_true he] at hc
              have D2 := Lib.hid (TN.out he)
              have HCC := Lib.hid hc
              clear hc
              have HNR2 : Hid (New w2 wr.drew) := Lib.hid HNR.out.drew
              clear he
              generalize wr.drew = w3 at *
              go_wp2_with fail
              refine HCC.out.mono ?_
              rintro e w4 ⟨rfl, hm4⟩
              have hm4 := HNR2.out.trans hm4
              have HM4 := Lib.hid hm4
              clear hm4
              go_wp2_with fail
              go_roundw
              case rel => exact ⟨j + 1, by omega, by go_num, HM4.out, D2⟩
              case measure => simp [intOf]; omega
            · rw [eqb_false he] at hc
              have E := Lib.hid (TF.out he)
              have HCC := Lib.hid hc
              clear hc
              have HNR2 : Hid (New w2 wr.drew) := Lib.hid HNR.out.drew
              clear he
              generalize wr.drew = w3 at *
              go_wp2_with fail
              refine HCC.out.mono ?_
              rintro e w4 ⟨rfl, hm4⟩
              have hm4 := HN.out.trans (HNR2.out.trans hm4)
              have HM4 := Lib.hid hm4
              clear hm4
              go_wp2_with fail
              go_ret
              exact ⟨by rw [E.out]; rfl, HM4.out⟩
          · obtain rfl : p1 = j := by omega
            have G0 : Hid (xparts = yparts) := Lib.hid (by
              have h1 := D.out
              rwa [List.take_of_length_le (by have := LX0.out; omega), List.take_of_length_le (by have := LY0.out; omega)] at h1)
            have HW0 := Lib.hid hnr
            clear hnr D
            go_wp2_with fail
            have HB1 := Lib.hid HW0.out
            go_loopw [7] (fun t wr => ∃ j : Nat, j ≤ p4 ∧ t = .int .i64 j ∧ New w2 wr ∧ Hid (xprocs.take j = yprocs.take j)) (fun t _ => (p4 - intOf t).toNat)
            case atStart => exact ⟨0, Nat.zero_le _, rfl, HB1.out, Lib.hid rfl⟩
            case round =>
              obtain ⟨j, hj, rfl, hnr, D⟩ := hrel
              have hb1 := B1.out.kept hnr id
              have hb2 := B2.out.kept hnr id
              have u0 := hb1.cell 0
              have v0 := hb2.cell 0
              have u1 := hb1.cell 1
              have v1 := hb2.cell 1
              have u2 := hb1.cell 2
              have v2 := hb2.cell 2
              simp only [List.getElem?_toArray, List.getElem?_cons_zero, List.getElem?_cons_succ] at u0 v0 u1 v1 u2 v2
              clear hb1 hb2
              by_cases hlt : j < p4
              · have i1 : j < xprocs.length := by have := LX1.out; omega
                have i2 : j < yprocs.length := by have := LY1.out; omega
                obtain ⟨gx, ox, cx, rfl, -, hcx⟩ := RX1.out j i1
                obtain ⟨gy, oy, cy, rfl, -, hcy⟩ := RY1.out j i2
                have hnw := HN.out.trans hnr
                have TN := Lib.hid fun e => take_next i1 i2 D.out e
                have TF : Hid (¬ xprocs[j] = yprocs[j] → res = false) := Lib.hid fun e => Nprocs.out fun h => e (by subst h; rfl)
                have f2 : (0 : Int) ≤ (j : Int) := by omega
                have f3 : (j : Int) < (p4 : Int) := by omega
                obtain ⟨c0, c1, c2, rfl, -⟩ := (hcx wr hnw).2
                have cx2 := (hcx wr hnw).1
                change ∀ j', j' < 15 → wr.cell? ⟨gx, ox + j * 15 + j', none⟩ = _ at cx2
                have zx0 := cx2 0 (by decide)
                have zx1 := cx2 1 (by decide)
                have zx2 := cx2 2 (by decide)
                have zx3 := cx2 3 (by decide)
                have zx4 := cx2 4 (by decide)
                have zx5 := cx2 5 (by decide)
                have zx6 := cx2 6 (by decide)
                have zx7 := cx2 7 (by decide)
                have zx8 := cx2 8 (by decide)
                have zx9 := cx2 9 (by decide)
                have zx10 := cx2 10 (by decide)
                have zx11 := cx2 11 (by decide)
                have zx12 := cx2 12 (by decide)
                have zx13 := cx2 13 (by decide)
                have zx14 := cx2 14 (by decide)
                clear cx2
                obtain ⟨d0, d1, d2, rfl, -⟩ := (hcy wr hnw).2
                have cy2 := (hcy wr hnw).1
                change ∀ j', j' < 15 → wr.cell? ⟨gy, oy + j * 15 + j', none⟩ = _ at cy2
                have zy0 := cy2 0 (by decide)
                have zy1 := cy2 1 (by decide)
                have zy2 := cy2 2 (by decide)
                have zy3 := cy2 3 (by decide)
                have zy4 := cy2 4 (by decide)
                have zy5 := cy2 5 (by decide)
                have zy6 := cy2 6 (by decide)
                have zy7 := cy2 7 (by decide)
                have zy8 := cy2 8 (by decide)
                have zy9 := cy2 9 (by decide)
                have zy10 := cy2 10 (by decide)
                have zy11 := cy2 11 (by decide)
                have zy12 := cy2 12 (by decide)
                have zy13 := cy2 13 (by decide)
                have zy14 := cy2 14 (by decide)
                clear cy2
                simp only [Nat.add_zero, Nat.mul_one, List.getElem?_cons_zero, List.getElem?_cons_succ] at zx0 zy0 zx1 zy1 zx2 zy2 zx3 zy3 zx4 zy4 zx5 zy5 zx6 zy6 zx7 zy7 zx8 zy8 zx9 zy9 zx10 zy10 zx11 zy11 zx12 zy12 zx13 zy13 zx14 zy14
                have HC := Lib.hid fun W (hW : New w W) => rsame_proc (hcx W hW).2 (hcy W hW).2 (by have h1 := HBB.out; have h2 := HGE.out; have h3 := hW.size; omega)
                clear hcx hcy
                generalize xprocs[j] = ex at *
                generalize yprocs[j] = ey at *
                have HNR := Lib.hid hnr
                have HNW : Hid (New w wr.drew) := Lib.hid hnw.drew
                clear hnr hnw i1 i2
                go_upto_region 12 with (fail)
                go_still_tail 10, (by kernel_rfl)
                change wpList _ _ _ _ _ wr.drew
                have hc := HC.out wr.drew HNW.out
                by_cases he : ex = ey
                · rw [eqb_true he] at hc
                  have D2 := Lib.hid (TN.out he)
                  have HCC := Lib.hid hc
                  clear hc
                  have HNR2 : Hid (New w2 wr.drew) := Lib.hid HNR.out.drew
                  clear he
                  generalize wr.drew = w3 at *
                  go_wp2_with fail
                  refine HCC.out.mono ?_
                  rintro e w4 ⟨rfl, hm4⟩
                  have hm4 := HNR2.out.trans hm4
                  have HM4 := Lib.hid hm4
                  clear hm4
                  go_wp2_with fail
                  go_roundw
                  case rel => exact ⟨j + 1, by omega, by go_num, HM4.out, D2⟩
                  case measure => simp [intOf]; omega
                · rw [eqb_false he] at hc
                  have E := Lib.hid (TF.out he)
                  have HCC := Lib.hid hc
                  clear hc
                  have HNR2 : Hid (New w2 wr.drew) := Lib.hid HNR.out.drew
                  clear he
                  generalize wr.drew = w3 at *
                  go_wp2_with fail
                  refine HCC.out.mono ?_
                  rintro e w4 ⟨rfl, hm4⟩
                  have hm4 := HN.out.trans (HNR2.out.trans hm4)
                  have HM4 := Lib.hid hm4
                  clear hm4
                  go_wp2_with fail
                  go_ret
                  exact ⟨by rw [E.out]; rfl, HM4.out⟩
              · obtain rfl : p4 = j := by omega
                have G1 : Hid (xprocs = yprocs) := Lib.hid (by
                  have h1 := D.out
                  rwa [List.take_of_length_le (by have := LX1.out; omega), List.take_of_length_le (by have := LY1.out; omega)] at h1)
                have HW1 := Lib.hid hnr
                clear hnr D
                skip
                have E := Lib.hid (HE.out (by first | rfl | trivial) G0.out G1.out)
                have hend := HN.out.trans HW1.out
                have HEND := Lib.hid hend
                clear hend
                go_wp2_with fail
                go_ret
                exact ⟨by rw [E.out]; rfl, HEND.out⟩
      · have E := Lib.hid (Nprocs.out fun h => eL1 (by rw [LX1.out, LY1.out, h]))
        have ne1 : (p4 != q4) = true := by simpa using eL1
        have ne2 : ((p4 : Int) != (q4 : Int)) = true := by simp; omega
        clear eL1
        go_wp2_with fail
        all_goals
          go_ret
          exact ⟨by rw [E.out]; rfl, HN.out⟩
    · have E := Lib.hid (Nparts.out fun h => eL0 (by rw [LX0.out, LY0.out, h]))
      have ne1 : (p1 != q1) = true := by simpa using eL0
      have ne2 : ((p1 : Int) != (q1 : Int)) = true := by simp; omega
      clear eL0
      go_wp2_with fail
      all_goals
        go_ret
        exact ⟨by rw [E.out]; rfl, HN.out⟩
  · have E := Lib.hid (Ntick.out etick)
    have ne : (xtick != ytick) = true := by simpa using etick
    clear etick
    go_wp2_with fail
    all_goals
      go_ret
      exact ⟨by rw [E.out]; rfl, HN.out⟩
end Go.Proofs.Ytgdmajockejpgaa.View
