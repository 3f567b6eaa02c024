/- The walks of the reference's Same (layer 18). -/
import Derived.Test.YtgdmajockejpgaaViewSa
import Derived.Test.YtgdmajockejpgaaViewI
namespace Go.Proofs.Ytgdmajockejpgaa.View
open Go.RowKit Go.Fb
set_option linter.unusedVariables false
set_option maxHeartbeats 4000000 in
set_option maxRecDepth 100000 in
theorem rsame_proc {w : World} {B : Nat} {x y : Process} {a0 a1 a2 a3 a4 a5 a6 a7 a8 a9 a10 a11 a12 a13 a14 b0 b1 b2 b3 b4 b5 b6 b7 b8 b9 b10 b11 b12 b13 b14 : Value} (h1 : repProc.cells w B x [a0, a1, a2, a3, a4, a5, a6, a7, a8, a9, a10, a11, a12, a13, a14]) (h2 : repProc.cells w B y [b0, b1, b2, b3, b4, b5, b6, b7, b8, b9, b10, b11, b12, b13, b14]) (hB : B ≤ w.heap.size) :
    Calls Try.prog 16 #[.agg #[a0, a1, a2, a3, a4, a5, a6, a7, a8, a9, a10, a11, a12, a13, a14], .agg #[b0, b1, b2, b3, b4, b5, b6, b7, b8, b9, b10, b11, b12, b13, b14]] w fun e w' => e = .returned (.bool (eqb x y)) ∧ New w w' := by
  obtain ⟨p0, p1, p2, h1, s1x⟩ := h1
  obtain ⟨q0, q1, q2, h2, s1y⟩ := h2
  simp only [List.cons.injEq, and_true] at h1 h2
  obtain ⟨rfl, rfl, rfl, rfl, rfl, rfl, rfl, rfl, rfl, rfl, rfl, rfl, rfl, rfl, rfl⟩ := h1
  obtain ⟨rfl, rfl, rfl, rfl, rfl, rfl, rfl, rfl, rfl, rfl, rfl, rfl, rfl, rfl, rfl⟩ := h2
  have HE : Hid (x.state = y.state → x.pc = y.pc → x.r0 = y.r0 → x.r1 = y.r1 → x.r2 = y.r2 → x.r3 = y.r3 → x.r4 = y.r4 → x.r5 = y.r5 → x.r6 = y.r6 → x.r7 = y.r7 → x.cursor = y.cursor → x.timer = y.timer → x.fired = y.fired → x.wake = y.wake → x.lanes = y.lanes → eqb x y = true) := Lib.hid fun _ _ _ _ _ _ _ _ _ _ _ _ _ _ _ => eqb_true (by cases x; cases y; simp_all)
  have Nstate := Lib.hid (fun (h : ¬ x.state = y.state) => show eqb x y = false from eqb_false fun e => h (by rw [e]))
  have Npc := Lib.hid (fun (h : ¬ x.pc = y.pc) => show eqb x y = false from eqb_false fun e => h (by rw [e]))
  have Nr0 := Lib.hid (fun (h : ¬ x.r0 = y.r0) => show eqb x y = false from eqb_false fun e => h (by rw [e]))
  have Nr1 := Lib.hid (fun (h : ¬ x.r1 = y.r1) => show eqb x y = false from eqb_false fun e => h (by rw [e]))
  have Nr2 := Lib.hid (fun (h : ¬ x.r2 = y.r2) => show eqb x y = false from eqb_false fun e => h (by rw [e]))
  have Nr3 := Lib.hid (fun (h : ¬ x.r3 = y.r3) => show eqb x y = false from eqb_false fun e => h (by rw [e]))
  have Nr4 := Lib.hid (fun (h : ¬ x.r4 = y.r4) => show eqb x y = false from eqb_false fun e => h (by rw [e]))
  have Nr5 := Lib.hid (fun (h : ¬ x.r5 = y.r5) => show eqb x y = false from eqb_false fun e => h (by rw [e]))
  have Nr6 := Lib.hid (fun (h : ¬ x.r6 = y.r6) => show eqb x y = false from eqb_false fun e => h (by rw [e]))
  have Nr7 := Lib.hid (fun (h : ¬ x.r7 = y.r7) => show eqb x y = false from eqb_false fun e => h (by rw [e]))
  have Ncursor := Lib.hid (fun (h : ¬ x.cursor = y.cursor) => show eqb x y = false from eqb_false fun e => h (by rw [e]))
  have Ntimer := Lib.hid (fun (h : ¬ x.timer = y.timer) => show eqb x y = false from eqb_false fun e => h (by rw [e]))
  have Nfired := Lib.hid (fun (h : ¬ x.fired = y.fired) => show eqb x y = false from eqb_false fun e => h (by rw [e]))
  have Nwake := Lib.hid (fun (h : ¬ x.wake = y.wake) => show eqb x y = false from eqb_false fun e => h (by rw [e]))
  have Nlanes := Lib.hid (fun (h : ¬ x.lanes = y.lanes) => show eqb x y = false from eqb_false fun e => h (by rw [e]))
  have lx0 := s1x.len
  have ly0 := s1y.len
  have kx0 := s1x.bound
  have ky0 := s1y.bound
  have RX0 := Lib.hid (sl_here s1x hB)
  have RY0 := Lib.hid (sl_here s1y hB)
  have b1 : Blk ((w.alloc (.cells #[.int .i64 x.state, .int .i64 x.pc, .int .i64 x.r0, .int .i64 x.r1, .int .i64 x.r2, .int .i64 x.r3, .int .i64 x.r4, .int .i64 x.r5, .int .i64 x.r6, .int .i64 x.r7, .int .i64 x.cursor, .int .i64 x.timer, .bool x.fired, .int .i64 x.wake, .slice p0 p1 p2] 49)).alloc (.cells #[.int .i64 y.state, .int .i64 y.pc, .int .i64 y.r0, .int .i64 y.r1, .int .i64 y.r2, .int .i64 y.r3, .int .i64 y.r4, .int .i64 y.r5, .int .i64 y.r6, .int .i64 y.r7, .int .i64 y.cursor, .int .i64 y.timer, .bool y.fired, .int .i64 y.wake, .slice q0 q1 q2] 49)) w.heap.size 49 #[.int .i64 x.state, .int .i64 x.pc, .int .i64 x.r0, .int .i64 x.r1, .int .i64 x.r2, .int .i64 x.r3, .int .i64 x.r4, .int .i64 x.r5, .int .i64 x.r6, .int .i64 x.r7, .int .i64 x.cursor, .int .i64 x.timer, .bool x.fired, .int .i64 x.wake, .slice p0 p1 p2] := (Blk.made _ _ _).alloc _
  have b2 : Blk ((w.alloc (.cells #[.int .i64 x.state, .int .i64 x.pc, .int .i64 x.r0, .int .i64 x.r1, .int .i64 x.r2, .int .i64 x.r3, .int .i64 x.r4, .int .i64 x.r5, .int .i64 x.r6, .int .i64 x.r7, .int .i64 x.cursor, .int .i64 x.timer, .bool x.fired, .int .i64 x.wake, .slice p0 p1 p2] 49)).alloc (.cells #[.int .i64 y.state, .int .i64 y.pc, .int .i64 y.r0, .int .i64 y.r1, .int .i64 y.r2, .int .i64 y.r3, .int .i64 y.r4, .int .i64 y.r5, .int .i64 y.r6, .int .i64 y.r7, .int .i64 y.cursor, .int .i64 y.timer, .bool y.fired, .int .i64 y.wake, .slice q0 q1 q2] 49)) (w.heap.size + 1) 49 #[.int .i64 y.state, .int .i64 y.pc, .int .i64 y.r0, .int .i64 y.r1, .int .i64 y.r2, .int .i64 y.r3, .int .i64 y.r4, .int .i64 y.r5, .int .i64 y.r6, .int .i64 y.r7, .int .i64 y.cursor, .int .i64 y.timer, .bool y.fired, .int .i64 y.wake, .slice q0 q1 q2] := Blk.made_at _ _ _ _ (by simp)
  have hn : New w ((w.alloc (.cells #[.int .i64 x.state, .int .i64 x.pc, .int .i64 x.r0, .int .i64 x.r1, .int .i64 x.r2, .int .i64 x.r3, .int .i64 x.r4, .int .i64 x.r5, .int .i64 x.r6, .int .i64 x.r7, .int .i64 x.cursor, .int .i64 x.timer, .bool x.fired, .int .i64 x.wake, .slice p0 p1 p2] 49)).alloc (.cells #[.int .i64 y.state, .int .i64 y.pc, .int .i64 y.r0, .int .i64 y.r1, .int .i64 y.r2, .int .i64 y.r3, .int .i64 y.r4, .int .i64 y.r5, .int .i64 y.r6, .int .i64 y.r7, .int .i64 y.cursor, .int .i64 y.timer, .bool y.fired, .int .i64 y.wake, .slice q0 q1 q2] 49)) := ((Kept.refl _ _).alloc _).alloc _
  clear s1x s1y
  generalize eqb x y = res at *
  generalize x.state = xstate at *
  generalize y.state = ystate at *
  generalize x.pc = xpc at *
  generalize y.pc = ypc at *
  generalize x.r0 = xr0 at *
  generalize y.r0 = yr0 at *
  generalize x.r1 = xr1 at *
  generalize y.r1 = yr1 at *
  generalize x.r2 = xr2 at *
  generalize y.r2 = yr2 at *
  generalize x.r3 = xr3 at *
  generalize y.r3 = yr3 at *
  generalize x.r4 = xr4 at *
  generalize y.r4 = yr4 at *
  generalize x.r5 = xr5 at *
  generalize y.r5 = yr5 at *
  generalize x.r6 = xr6 at *
  generalize y.r6 = yr6 at *
  generalize x.r7 = xr7 at *
  generalize y.r7 = yr7 at *
  generalize x.cursor = xcursor at *
  generalize y.cursor = ycursor at *
  generalize x.timer = xtimer at *
  generalize y.timer = ytimer at *
  generalize x.fired = xfired at *
  generalize y.fired = yfired at *
  generalize x.wake = xwake at *
  generalize y.wake = ywake at *
  generalize x.lanes = xlanes at *
  generalize y.lanes = ylanes at *
  have B1 := Lib.hid b1
  have B2 := Lib.hid b2
  have HN := Lib.hid hn
  have LX0 := Lib.hid lx0
  have LY0 := Lib.hid ly0
  have HBB := Lib.hid hB
  clear b1 b2 hn lx0 ly0 hB
  go_enter Try.func16, Try.ntmps16
  have hq8 := eq8 xr0 xr1 xr2 xr3 xr4 xr5 xr6 xr7 yr0 yr1 yr2 yr3 yr4 yr5 yr6 yr7
  go_upto_region 1 with (fail)
  generalize ((w.alloc (.cells #[.int .i64 xstate, .int .i64 xpc, .int .i64 xr0, .int .i64 xr1, .int .i64 xr2, .int .i64 xr3, .int .i64 xr4, .int .i64 xr5, .int .i64 xr6, .int .i64 xr7, .int .i64 xcursor, .int .i64 xtimer, .bool xfired, .int .i64 xwake, .slice p0 p1 p2] 49)).alloc (.cells #[.int .i64 ystate, .int .i64 ypc, .int .i64 yr0, .int .i64 yr1, .int .i64 yr2, .int .i64 yr3, .int .i64 yr4, .int .i64 yr5, .int .i64 yr6, .int .i64 yr7, .int .i64 ycursor, .int .i64 ytimer, .bool yfired, .int .i64 ywake, .slice q0 q1 q2] 49)) = w2 at *
  generalize hg1 : w.heap.size = g1 at *
  have HGE := Lib.hid hg1
  clear hg1
  have hb1 := B1.out.kept (Kept.refl (fun _ => False) w2) id
  have hb2 := B2.out.kept (Kept.refl (fun _ => False) w2) id
  have u0 := hb1.cell 0
  have v0 := hb2.cell 0
  have u1 := hb1.cell 1
  have v1 := hb2.cell 1
  have u2 := hb1.cell 2
  have v2 := hb2.cell 2
  have u3 := hb1.cell 3
  have v3 := hb2.cell 3
  have u4 := hb1.cell 4
  have v4 := hb2.cell 4
  have u5 := hb1.cell 5
  have v5 := hb2.cell 5
  have u6 := hb1.cell 6
  have v6 := hb2.cell 6
  have u7 := hb1.cell 7
  have v7 := hb2.cell 7
  have u8 := hb1.cell 8
  have v8 := hb2.cell 8
  have u9 := hb1.cell 9
  have v9 := hb2.cell 9
  have u10 := hb1.cell 10
  have v10 := hb2.cell 10
  have u11 := hb1.cell 11
  have v11 := hb2.cell 11
  have u12 := hb1.cell 12
  have v12 := hb2.cell 12
  have u13 := hb1.cell 13
  have v13 := hb2.cell 13
  have u14 := hb1.cell 14
  have v14 := hb2.cell 14
  simp only [List.getElem?_toArray, List.getElem?_cons_zero, List.getElem?_cons_succ] at u0 v0 u1 v1 u2 v2 u3 v3 u4 v4 u5 v5 u6 v6 u7 v7 u8 v8 u9 v9 u10 v10 u11 v11 u12 v12 u13 v13 u14 v14
  clear hb1 hb2
  by_cases estate : xstate = ystate
  · subst estate
    by_cases epc : xpc = ypc
    · subst epc
      by_cases er0 : xr0 = yr0
      · subst er0
        by_cases er1 : xr1 = yr1
        · subst er1
          by_cases er2 : xr2 = yr2
          · subst er2
            by_cases er3 : xr3 = yr3
            · subst er3
              by_cases er4 : xr4 = yr4
              · subst er4
                by_cases er5 : xr5 = yr5
                · subst er5
                  by_cases er6 : xr6 = yr6
                  · subst er6
                    by_cases er7 : xr7 = yr7
                    · subst er7
                      by_cases ecursor : xcursor = ycursor
                      · subst ecursor
                        by_cases etimer : xtimer = ytimer
                        · subst etimer
                          by_cases efired : xfired = yfired
                          · subst efired
                            by_cases ewake : xwake = ywake
                            · subst ewake
                              by_cases eL0 : p1 = q1
                              · subst eL0
                                go_wp2_with fail
                                have HB0 := Lib.hid (Kept.refl (fun _ => False) w2)
                                go_loopw [5] (fun t wr => ∃ j : Nat, j ≤ p1 ∧ t = .int .i64 j ∧ New w2 wr ∧ Hid (xlanes.take j = ylanes.take j)) (fun t _ => (p1 - intOf t).toNat)
                                case atStart => exact ⟨0, Nat.zero_le _, rfl, HB0.out, Lib.hid rfl⟩
                                case round =>
                                  obtain ⟨j, hj, rfl, hnr, D⟩ := hrel
                                  have hb1 := B1.out.kept hnr id
                                  have hb2 := B2.out.kept hnr id
                                  have u0 := hb1.cell 0
                                  have v0 := hb2.cell 0
                                  have u1 := hb1.cell 1
                                  have v1 := hb2.cell 1
                                  have u2 := hb1.cell 2
                                  have v2 := hb2.cell 2
                                  have u3 := hb1.cell 3
                                  have v3 := hb2.cell 3
                                  have u4 := hb1.cell 4
                                  have v4 := hb2.cell 4
                                  have u5 := hb1.cell 5
                                  have v5 := hb2.cell 5
                                  have u6 := hb1.cell 6
                                  have v6 := hb2.cell 6
                                  have u7 := hb1.cell 7
                                  have v7 := hb2.cell 7
                                  have u8 := hb1.cell 8
                                  have v8 := hb2.cell 8
                                  have u9 := hb1.cell 9
                                  have v9 := hb2.cell 9
                                  have u10 := hb1.cell 10
                                  have v10 := hb2.cell 10
                                  have u11 := hb1.cell 11
                                  have v11 := hb2.cell 11
                                  have u12 := hb1.cell 12
                                  have v12 := hb2.cell 12
                                  have u13 := hb1.cell 13
                                  have v13 := hb2.cell 13
                                  have u14 := hb1.cell 14
                                  have v14 := hb2.cell 14
                                  simp only [List.getElem?_toArray, List.getElem?_cons_zero, List.getElem?_cons_succ] at u0 v0 u1 v1 u2 v2 u3 v3 u4 v4 u5 v5 u6 v6 u7 v7 u8 v8 u9 v9 u10 v10 u11 v11 u12 v12 u13 v13 u14 v14
                                  clear hb1 hb2
                                  by_cases hlt : j < p1
                                  · have i1 : j < xlanes.length := by have := LX0.out; omega
                                    have i2 : j < ylanes.length := by have := LY0.out; omega
                                    obtain ⟨gx, ox, cx, rfl, -, hcx⟩ := RX0.out j i1
                                    obtain ⟨gy, oy, cy, rfl, -, hcy⟩ := RY0.out j i2
                                    have hnw := HN.out.trans hnr
                                    have TN := Lib.hid fun e => take_next i1 i2 D.out e
                                    have TF : Hid (¬ xlanes[j] = ylanes[j] → res = false) := Lib.hid fun e => Nlanes.out fun h => e (by subst h; rfl)
                                    have f2 : (0 : Int) ≤ (j : Int) := by omega
                                    have f3 : (j : Int) < (p1 : Int) := by omega
                                    obtain ⟨c0, c1, c2, c3, c4, c5, rfl, -⟩ := (hcx wr hnw).2
                                    have cx2 := (hcx wr hnw).1
                                    change ∀ j', j' < 4 → wr.cell? ⟨gx, ox + j * 4 + j', none⟩ = _ at cx2
                                    have zx0 := cx2 0 (by decide)
                                    have zx1 := cx2 1 (by decide)
                                    have zx2 := cx2 2 (by decide)
                                    have zx3 := cx2 3 (by decide)
                                    clear cx2
                                    obtain ⟨d0, d1, d2, d3, d4, d5, rfl, -⟩ := (hcy wr hnw).2
                                    have cy2 := (hcy wr hnw).1
                                    change ∀ j', j' < 4 → wr.cell? ⟨gy, oy + j * 4 + j', none⟩ = _ at cy2
                                    have zy0 := cy2 0 (by decide)
                                    have zy1 := cy2 1 (by decide)
                                    have zy2 := cy2 2 (by decide)
                                    have zy3 := cy2 3 (by decide)
                                    clear cy2
                                    simp only [Nat.add_zero, Nat.mul_one, List.getElem?_cons_zero, List.getElem?_cons_succ] at zx0 zy0 zx1 zy1 zx2 zy2 zx3 zy3
                                    have HC := Lib.hid fun W (hW : New w W) => rsame_lane (hcx W hW).2 (hcy W hW).2 (by have h1 := HBB.out; have h2 := HGE.out; have h3 := hW.size; omega)
                                    clear hcx hcy
                                    generalize xlanes[j] = ex at *
                                    generalize ylanes[j] = ey at *
                                    have HNR := Lib.hid hnr
                                    have HNW : Hid (New w wr.drew) := Lib.hid hnw.drew
                                    clear hnr hnw i1 i2
                                    go_upto_region 6 with (fail)
                                    go_still_tail 10, (by kernel_rfl)
                                    change wpList _ _ _ _ _ wr.drew
                                    have hc := HC.out wr.drew HNW.out
                                    by_cases he : ex = ey
                                    · rw [eqb_true he] at hc
                                      have D2 := Lib.hid (TN.out he)
                                      have HCC := Lib.hid hc
                                      clear hc
                                      have HNR2 : Hid (New w2 wr.drew) := Lib.hid HNR.out.drew
                                      clear he
                                      generalize wr.drew = w3 at *
                                      go_wp2_with fail
                                      refine HCC.out.mono ?_
                                      rintro e w4 ⟨rfl, hm4⟩
                                      have hm4 := HNR2.out.trans hm4
                                      have HM4 := Lib.hid hm4
                                      clear hm4
                                      go_wp2_with fail
                                      go_roundw
                                      case rel => exact ⟨j + 1, by omega, by go_num, HM4.out, D2⟩
                                      case measure => simp [intOf]; omega
                                    · rw [eqb_false he] at hc
                                      have E := Lib.hid (TF.out he)
                                      have HCC := Lib.hid hc
                                      clear hc
                                      have HNR2 : Hid (New w2 wr.drew) := Lib.hid HNR.out.drew
                                      clear he
                                      generalize wr.drew = w3 at *
                                      go_wp2_with fail
                                      refine HCC.out.mono ?_
                                      rintro e w4 ⟨rfl, hm4⟩
                                      have hm4 := HN.out.trans (HNR2.out.trans hm4)
                                      have HM4 := Lib.hid hm4
                                      clear hm4
                                      go_wp2_with fail
                                      go_ret
                                      exact ⟨by rw [E.out]; rfl, HM4.out⟩
                                  · obtain rfl : p1 = j := by omega
                                    have G0 : Hid (xlanes = ylanes) := Lib.hid (by
                                      have h1 := D.out
                                      rwa [List.take_of_length_le (by have := LX0.out; omega), List.take_of_length_le (by have := LY0.out; omega)] at h1)
                                    have HW0 := Lib.hid hnr
                                    clear hnr D
                                    skip
                                    have E := Lib.hid (HE.out (by first | rfl | trivial) (by first | rfl | trivial) (by first | rfl | trivial) (by first | rfl | trivial) (by first | rfl | trivial) (by first | rfl | trivial) (by first | rfl | trivial) (by first | rfl | trivial) (by first | rfl | trivial) (by first | rfl | trivial) (by first | rfl | trivial) (by first | rfl | trivial) (by first | rfl | trivial) (by first | rfl | trivial) G0.out)
                                    have hend := HN.out.trans HW0.out
                                    have HEND := Lib.hid hend
                                    clear hend
                                    go_wp2_with fail
                                    go_ret
                                    exact ⟨by rw [E.out]; rfl, HEND.out⟩
                              · have E := Lib.hid (Nlanes.out fun h => eL0 (by rw [LX0.out, LY0.out, h]))
                                have ne1 : (p1 != q1) = true := by simpa using eL0
                                have ne2 : ((p1 : Int) != (q1 : Int)) = true := by simp; omega
                                clear eL0
                                go_wp2_with fail
                                all_goals
                                  go_ret
                                  exact ⟨by rw [E.out]; rfl, HN.out⟩
                            · have E := Lib.hid (Nwake.out ewake)
                              have ne : (xwake != ywake) = true := by simpa using ewake
                              clear ewake
                              go_wp2_with fail
                              all_goals
                                go_ret
                                exact ⟨by rw [E.out]; rfl, HN.out⟩
                          · have E := Lib.hid (Nfired.out efired)
                            cases xfired <;> cases yfired
                            all_goals first
                              | exact absurd rfl efired
                              | (clear efired; go_wp2_with fail; go_ret; exact ⟨by rw [E.out]; rfl, HN.out⟩)
                        · have E := Lib.hid (Ntimer.out etimer)
                          have ne : (xtimer != ytimer) = true := by simpa using etimer
                          clear etimer
                          go_wp2_with fail
                          all_goals
                            go_ret
                            exact ⟨by rw [E.out]; rfl, HN.out⟩
                      · have E := Lib.hid (Ncursor.out ecursor)
                        have ne : (xcursor != ycursor) = true := by simpa using ecursor
                        clear ecursor
                        go_wp2_with fail
                        all_goals
                          go_ret
                          exact ⟨by rw [E.out]; rfl, HN.out⟩
                    · have E := Lib.hid (Nr7.out er7)
                      have ne : (xr7 == yr7) = false := by simpa using er7
                      clear er7
                      go_wp2_with fail
                      all_goals
                        go_ret
                        exact ⟨by rw [E.out]; rfl, HN.out⟩
                  · have E := Lib.hid (Nr6.out er6)
                    have ne : (xr6 == yr6) = false := by simpa using er6
                    clear er6
                    go_wp2_with fail
                    all_goals
                      go_ret
                      exact ⟨by rw [E.out]; rfl, HN.out⟩
                · have E := Lib.hid (Nr5.out er5)
                  have ne : (xr5 == yr5) = false := by simpa using er5
                  clear er5
                  go_wp2_with fail
                  all_goals
                    go_ret
                    exact ⟨by rw [E.out]; rfl, HN.out⟩
              · have E := Lib.hid (Nr4.out er4)
                have ne : (xr4 == yr4) = false := by simpa using er4
                clear er4
                go_wp2_with fail
                all_goals
                  go_ret
                  exact ⟨by rw [E.out]; rfl, HN.out⟩
            · have E := Lib.hid (Nr3.out er3)
              have ne : (xr3 == yr3) = false := by simpa using er3
              clear er3
              go_wp2_with fail
              all_goals
                go_ret
                exact ⟨by rw [E.out]; rfl, HN.out⟩
          · have E := Lib.hid (Nr2.out er2)
            have ne : (xr2 == yr2) = false := by simpa using er2
            clear er2
            go_wp2_with fail
            all_goals
              go_ret
              exact ⟨by rw [E.out]; rfl, HN.out⟩
        · have E := Lib.hid (Nr1.out er1)
          have ne : (xr1 == yr1) = false := by simpa using er1
          clear er1
          go_wp2_with fail
          all_goals
            go_ret
            exact ⟨by rw [E.out]; rfl, HN.out⟩
      · have E := Lib.hid (Nr0.out er0)
        have ne : (xr0 == yr0) = false := by simpa using er0
        clear er0
        go_wp2_with fail
        all_goals
          go_ret
          exact ⟨by rw [E.out]; rfl, HN.out⟩
    · have E := Lib.hid (Npc.out epc)
      have ne : (xpc != ypc) = true := by simpa using epc
      clear epc
      go_wp2_with fail
      all_goals
        go_ret
        exact ⟨by rw [E.out]; rfl, HN.out⟩
  · have E := Lib.hid (Nstate.out estate)
    have ne : (xstate != ystate) = true := by simpa using estate
    clear estate
    go_wp2_with fail
    all_goals
      go_ret
      exact ⟨by rw [E.out]; rfl, HN.out⟩
end Go.Proofs.Ytgdmajockejpgaa.View
