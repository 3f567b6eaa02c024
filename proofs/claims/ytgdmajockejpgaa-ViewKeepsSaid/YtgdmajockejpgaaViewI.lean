/- The walks of package view's same.. (layer 18). -/
import Derived.Test.YtgdmajockejpgaaViewG
namespace Go.Proofs.Ytgdmajockejpgaa.View
open Go.RowKit Go.Fb
set_option linter.unusedVariables false
set_option maxHeartbeats 1000000 in
set_option maxRecDepth 100000 in
theorem eq8 (a0 a1 a2 a3 a4 a5 a6 a7 b0 b1 b2 b3 b4 b5 b6 b7 : Int) (w : World) : (Op.equalIn 10000 46 (.agg #[.int .i64 a0, .int .i64 a1, .int .i64 a2, .int .i64 a3, .int .i64 a4, .int .i64 a5, .int .i64 a6, .int .i64 a7]) (.agg #[.int .i64 b0, .int .i64 b1, .int .i64 b2, .int .i64 b3, .int .i64 b4, .int .i64 b5, .int .i64 b6, .int .i64 b7])).run Try.prog w = .ok (a0 == b0 && a1 == b1 && a2 == b2 && a3 == b3 && a4 == b4 && a5 == b5 && a6 == b6 && a7 == b7) w := by
  have uu := Try.underlying2
  have aa := Try.isAgg2
  have zz := Try.sizeOf2
  rw [show (10000 : Nat) = 9999 + 1 from rfl, Op.equalIn]
  simp only [Sem.run_bind, run_underlying Try.underlying46, Result.andThen_ok]
  simp only [Std.Legacy.Range.forIn_eq_forIn_range', Std.Legacy.Range.size, Nat.sub_zero, Nat.add_sub_cancel, Nat.div_one, List.range'_succ, List.range'_zero, List.forIn_cons, List.forIn_nil]
  go_simp
  by_cases h0 : a0 = b0
  · subst h0
    by_cases h1 : a1 = b1
    · subst h1
      by_cases h2 : a2 = b2
      · subst h2
        by_cases h3 : a3 = b3
        · subst h3
          by_cases h4 : a4 = b4
          · subst h4
            by_cases h5 : a5 = b5
            · subst h5
              by_cases h6 : a6 = b6
              · subst h6
                by_cases h7 : a7 = b7
                · subst h7
                  simp
                · simp [h7]
              · simp [h6]
            · simp [h5]
          · simp [h4]
        · simp [h3]
      · simp [h2]
    · simp [h1]
  · simp [h0]
set_option maxHeartbeats 4000000 in
set_option maxRecDepth 100000 in
theorem same_proc {w : World} {B : Nat} {x y : Process} {a0 a1 a2 a3 a4 a5 a6 a7 a8 a9 a10 a11 a12 a13 a14 b0 b1 b2 b3 b4 b5 b6 b7 b8 b9 b10 b11 b12 b13 b14 : Value} (h1 : repProc.cells w B x [a0, a1, a2, a3, a4, a5, a6, a7, a8, a9, a10, a11, a12, a13, a14]) (h2 : repProc.cells w B y [b0, b1, b2, b3, b4, b5, b6, b7, b8, b9, b10, b11, b12, b13, b14]) (hB : B ≤ w.heap.size) :
    Calls Try.prog 24 #[.agg #[a0, a1, a2, a3, a4, a5, a6, a7, a8, a9, a10, a11, a12, a13, a14], .agg #[b0, b1, b2, b3, b4, b5, b6, b7, b8, b9, b10, b11, b12, b13, b14]] w fun e w' => e = .returned (.bool (eqb x y)) ∧ New w w' := by
  obtain ⟨p0, p1, p2, h1, s1x⟩ := h1
  obtain ⟨q0, q1, q2, h2, s1y⟩ := h2
  simp only [List.cons.injEq, and_true] at h1 h2
  obtain ⟨rfl, rfl, rfl, rfl, rfl, rfl, rfl, rfl, rfl, rfl, rfl, rfl, rfl, rfl, rfl⟩ := h1
  obtain ⟨rfl, rfl, rfl, rfl, rfl, rfl, rfl, rfl, rfl, rfl, rfl, rfl, rfl, rfl, rfl⟩ := h2
  have C1 : Hid (∀ W, New w W → Calls _ _ _ W fun e w' => e = .returned (.bool (eqb x.lanes y.lanes)) ∧ New W w') := Lib.hid fun W hW => gsame_lane (s1x.kept hW hB fun _ _ h => h) (s1y.kept hW hB fun _ _ h => h) (Nat.le_trans hB hW.size)
  have HE : Hid (x.state = y.state → x.pc = y.pc → x.r0 = y.r0 → x.r1 = y.r1 → x.r2 = y.r2 → x.r3 = y.r3 → x.r4 = y.r4 → x.r5 = y.r5 → x.r6 = y.r6 → x.r7 = y.r7 → x.cursor = y.cursor → x.timer = y.timer → x.fired = y.fired → x.wake = y.wake → x.lanes = y.lanes → eqb x y = true) := Lib.hid fun _ _ _ _ _ _ _ _ _ _ _ _ _ _ _ => eqb_true (by cases x; cases y; simp_all)
  have Nstate := Lib.hid (fun (h : ¬ x.state = y.state) => show eqb x y = false from eqb_false fun e => h (by rw [e]))
  have Npc := Lib.hid (fun (h : ¬ x.pc = y.pc) => show eqb x y = false from eqb_false fun e => h (by rw [e]))
  have Nr0 := Lib.hid (fun (h : ¬ x.r0 = y.r0) => show eqb x y = false from eqb_false fun e => h (by rw [e]))
  have Nr1 := Lib.hid (fun (h : ¬ x.r1 = y.r1) => show eqb x y = false from eqb_false fun e => h (by rw [e]))
  have Nr2 := Lib.hid (fun (h : ¬ x.r2 = y.r2) => show eqb x y = false from eqb_false fun e => h (by rw [e]))
  have Nr3 := Lib.hid (fun (h : ¬ x.r3 = y.r3) => show eqb x y = false from eqb_false fun e => h (by rw [e]))
  have Nr4 := Lib.hid (fun (h : ¬ x.r4 = y.r4) => show eqb x y = false from eqb_false fun e => h (by rw [e]))
  have Nr5 := Lib.hid (fun (h : ¬ x.r5 = y.r5) => show eqb x y = false from eqb_false fun e => h (by rw [e]))
  have Nr6 := Lib.hid (fun (h : ¬ x.r6 = y.r6) => show eqb x y = false from eqb_false fun e => h (by rw [e]))
  have Nr7 := Lib.hid (fun (h : ¬ x.r7 = y.r7) => show eqb x y = false from eqb_false fun e => h (by rw [e]))
  have Ncursor := Lib.hid (fun (h : ¬ x.cursor = y.cursor) => show eqb x y = false from eqb_false fun e => h (by rw [e]))
  have Ntimer := Lib.hid (fun (h : ¬ x.timer = y.timer) => show eqb x y = false from eqb_false fun e => h (by rw [e]))
  have Nfired := Lib.hid (fun (h : ¬ x.fired = y.fired) => show eqb x y = false from eqb_false fun e => h (by rw [e]))
  have Nwake := Lib.hid (fun (h : ¬ x.wake = y.wake) => show eqb x y = false from eqb_false fun e => h (by rw [e]))
  have Nlanes := Lib.hid (fun (h : ¬ x.lanes = y.lanes) => show eqb x y = false from eqb_false fun e => h (by rw [e]))
  have b1 : Blk ((w.alloc (.cells #[.int .i64 x.state, .int .i64 x.pc, .int .i64 x.r0, .int .i64 x.r1, .int .i64 x.r2, .int .i64 x.r3, .int .i64 x.r4, .int .i64 x.r5, .int .i64 x.r6, .int .i64 x.r7, .int .i64 x.cursor, .int .i64 x.timer, .bool x.fired, .int .i64 x.wake, .slice p0 p1 p2] 49)).alloc (.cells #[.int .i64 y.state, .int .i64 y.pc, .int .i64 y.r0, .int .i64 y.r1, .int .i64 y.r2, .int .i64 y.r3, .int .i64 y.r4, .int .i64 y.r5, .int .i64 y.r6, .int .i64 y.r7, .int .i64 y.cursor, .int .i64 y.timer, .bool y.fired, .int .i64 y.wake, .slice q0 q1 q2] 49)) w.heap.size 49 #[.int .i64 x.state, .int .i64 x.pc, .int .i64 x.r0, .int .i64 x.r1, .int .i64 x.r2, .int .i64 x.r3, .int .i64 x.r4, .int .i64 x.r5, .int .i64 x.r6, .int .i64 x.r7, .int .i64 x.cursor, .int .i64 x.timer, .bool x.fired, .int .i64 x.wake, .slice p0 p1 p2] := (Blk.made _ _ _).alloc _
  have b2 : Blk ((w.alloc (.cells #[.int .i64 x.state, .int .i64 x.pc, .int .i64 x.r0, .int .i64 x.r1, .int .i64 x.r2, .int .i64 x.r3, .int .i64 x.r4, .int .i64 x.r5, .int .i64 x.r6, .int .i64 x.r7, .int .i64 x.cursor, .int .i64 x.timer, .bool x.fired, .int .i64 x.wake, .slice p0 p1 p2] 49)).alloc (.cells #[.int .i64 y.state, .int .i64 y.pc, .int .i64 y.r0, .int .i64 y.r1, .int .i64 y.r2, .int .i64 y.r3, .int .i64 y.r4, .int .i64 y.r5, .int .i64 y.r6, .int .i64 y.r7, .int .i64 y.cursor, .int .i64 y.timer, .bool y.fired, .int .i64 y.wake, .slice q0 q1 q2] 49)) (w.heap.size + 1) 49 #[.int .i64 y.state, .int .i64 y.pc, .int .i64 y.r0, .int .i64 y.r1, .int .i64 y.r2, .int .i64 y.r3, .int .i64 y.r4, .int .i64 y.r5, .int .i64 y.r6, .int .i64 y.r7, .int .i64 y.cursor, .int .i64 y.timer, .bool y.fired, .int .i64 y.wake, .slice q0 q1 q2] := Blk.made_at _ _ _ _ (by simp)
  have hn : New w ((w.alloc (.cells #[.int .i64 x.state, .int .i64 x.pc, .int .i64 x.r0, .int .i64 x.r1, .int .i64 x.r2, .int .i64 x.r3, .int .i64 x.r4, .int .i64 x.r5, .int .i64 x.r6, .int .i64 x.r7, .int .i64 x.cursor, .int .i64 x.timer, .bool x.fired, .int .i64 x.wake, .slice p0 p1 p2] 49)).alloc (.cells #[.int .i64 y.state, .int .i64 y.pc, .int .i64 y.r0, .int .i64 y.r1, .int .i64 y.r2, .int .i64 y.r3, .int .i64 y.r4, .int .i64 y.r5, .int .i64 y.r6, .int .i64 y.r7, .int .i64 y.cursor, .int .i64 y.timer, .bool y.fired, .int .i64 y.wake, .slice q0 q1 q2] 49)) := ((Kept.refl _ _).alloc _).alloc _
  have ks1x := s1x.bound
  have ks1y := s1y.bound
  clear s1x s1y
  generalize eqb x y = res at *
  generalize x.state = xstate at *
  generalize y.state = ystate at *
  generalize x.pc = xpc at *
  generalize y.pc = ypc at *
  generalize x.r0 = xr0 at *
  generalize y.r0 = yr0 at *
  generalize x.r1 = xr1 at *
  generalize y.r1 = yr1 at *
  generalize x.r2 = xr2 at *
  generalize y.r2 = yr2 at *
  generalize x.r3 = xr3 at *
  generalize y.r3 = yr3 at *
  generalize x.r4 = xr4 at *
  generalize y.r4 = yr4 at *
  generalize x.r5 = xr5 at *
  generalize y.r5 = yr5 at *
  generalize x.r6 = xr6 at *
  generalize y.r6 = yr6 at *
  generalize x.r7 = xr7 at *
  generalize y.r7 = yr7 at *
  generalize x.cursor = xcursor at *
  generalize y.cursor = ycursor at *
  generalize x.timer = xtimer at *
  generalize y.timer = ytimer at *
  generalize x.fired = xfired at *
  generalize y.fired = yfired at *
  generalize x.wake = xwake at *
  generalize y.wake = ywake at *
  generalize x.lanes = xlanes at *
  generalize y.lanes = ylanes at *
  have hq8 := eq8 xr0 xr1 xr2 xr3 xr4 xr5 xr6 xr7 yr0 yr1 yr2 yr3 yr4 yr5 yr6 yr7
  have B1 := Lib.hid b1
  have B2 := Lib.hid b2
  have HN := Lib.hid hn
  clear b1 b2 hn
  go_enter Try.func24, Try.ntmps24
  go_upto_region 1 with (fail)
  generalize ((w.alloc (.cells #[.int .i64 xstate, .int .i64 xpc, .int .i64 xr0, .int .i64 xr1, .int .i64 xr2, .int .i64 xr3, .int .i64 xr4, .int .i64 xr5, .int .i64 xr6, .int .i64 xr7, .int .i64 xcursor, .int .i64 xtimer, .bool xfired, .int .i64 xwake, .slice p0 p1 p2] 49)).alloc (.cells #[.int .i64 ystate, .int .i64 ypc, .int .i64 yr0, .int .i64 yr1, .int .i64 yr2, .int .i64 yr3, .int .i64 yr4, .int .i64 yr5, .int .i64 yr6, .int .i64 yr7, .int .i64 ycursor, .int .i64 ytimer, .bool yfired, .int .i64 ywake, .slice q0 q1 q2] 49)) = w2 at *
  generalize w.heap.size = g1 at *
  have u0 := B1.out.cell 0
  have u1 := B1.out.cell 1
  have u2 := B1.out.cell 2
  have u3 := B1.out.cell 3
  have u4 := B1.out.cell 4
  have u5 := B1.out.cell 5
  have u6 := B1.out.cell 6
  have u7 := B1.out.cell 7
  have u8 := B1.out.cell 8
  have u9 := B1.out.cell 9
  have u10 := B1.out.cell 10
  have u11 := B1.out.cell 11
  have u12 := B1.out.cell 12
  have u13 := B1.out.cell 13
  have u14 := B1.out.cell 14
  have v0 := B2.out.cell 0
  have v1 := B2.out.cell 1
  have v2 := B2.out.cell 2
  have v3 := B2.out.cell 3
  have v4 := B2.out.cell 4
  have v5 := B2.out.cell 5
  have v6 := B2.out.cell 6
  have v7 := B2.out.cell 7
  have v8 := B2.out.cell 8
  have v9 := B2.out.cell 9
  have v10 := B2.out.cell 10
  have v11 := B2.out.cell 11
  have v12 := B2.out.cell 12
  have v13 := B2.out.cell 13
  have v14 := B2.out.cell 14
  simp only [List.getElem?_toArray, List.getElem?_cons_zero, List.getElem?_cons_succ] at u0 u1 u2 u3 u4 u5 u6 u7 u8 u9 u10 u11 u12 u13 u14 v0 v1 v2 v3 v4 v5 v6 v7 v8 v9 v10 v11 v12 v13 v14
  by_cases estate : xstate = ystate
  · subst estate
    by_cases epc : xpc = ypc
    · subst epc
      by_cases er0 : xr0 = yr0
      · subst er0
        by_cases er1 : xr1 = yr1
        · subst er1
          by_cases er2 : xr2 = yr2
          · subst er2
            by_cases er3 : xr3 = yr3
            · subst er3
              by_cases er4 : xr4 = yr4
              · subst er4
                by_cases er5 : xr5 = yr5
                · subst er5
                  by_cases er6 : xr6 = yr6
                  · subst er6
                    by_cases er7 : xr7 = yr7
                    · subst er7
                      by_cases ecursor : xcursor = ycursor
                      · subst ecursor
                        by_cases etimer : xtimer = ytimer
                        · subst etimer
                          by_cases efired : xfired = yfired
                          · subst efired
                            by_cases ewake : xwake = ywake
                            · subst ewake
                              by_cases elanes : xlanes = ylanes
                              · have c1 := C1.out w2 HN.out
                                rw [eqb_true elanes] at c1
                                have D1 := Lib.hid c1
                                clear c1
                                go_wp2_with fail
                                refine D1.out.mono ?_
                                rintro e w3 ⟨rfl, m1⟩
                                have M1 := Lib.hid (HN.out.trans m1)
                                clear m1
                                have E := Lib.hid (HE.out (by first | rfl | trivial) (by first | rfl | trivial) (by first | rfl | trivial) (by first | rfl | trivial) (by first | rfl | trivial) (by first | rfl | trivial) (by first | rfl | trivial) (by first | rfl | trivial) (by first | rfl | trivial) (by first | rfl | trivial) (by first | rfl | trivial) (by first | rfl | trivial) (by first | rfl | trivial) (by first | rfl | trivial) elanes)
                                go_wp2_with fail
                                go_ret
                                exact ⟨by rw [E.out]; rfl, M1.out⟩
                              · have c1 := C1.out w2 HN.out
                                rw [eqb_false elanes] at c1
                                have D1 := Lib.hid c1
                                clear c1
                                have E := Lib.hid (Nlanes.out elanes)
                                go_wp2_with fail
                                refine D1.out.mono ?_
                                rintro e w3 ⟨rfl, m1⟩
                                have M1 := Lib.hid (HN.out.trans m1)
                                clear m1
                                go_wp2_with fail
                                go_ret
                                exact ⟨by rw [E.out]; rfl, M1.out⟩
                            · have E := Lib.hid (Nwake.out ewake)
                              have ne : (xwake == ywake) = false := by simpa using ewake
                              go_wp2_with fail
                              go_ret
                              exact ⟨by rw [E.out]; rfl, HN.out⟩
                          · have E := Lib.hid (Nfired.out efired)
                            have ne : (xfired == yfired) = false := by simpa using efired
                            go_wp2_with fail
                            go_ret
                            exact ⟨by rw [E.out]; rfl, HN.out⟩
                        · have E := Lib.hid (Ntimer.out etimer)
                          have ne : (xtimer == ytimer) = false := by simpa using etimer
                          go_wp2_with fail
                          go_ret
                          exact ⟨by rw [E.out]; rfl, HN.out⟩
                      · have E := Lib.hid (Ncursor.out ecursor)
                        have ne : (xcursor == ycursor) = false := by simpa using ecursor
                        go_wp2_with fail
                        go_ret
                        exact ⟨by rw [E.out]; rfl, HN.out⟩
                    · have E := Lib.hid (Nr7.out er7)
                      have ne : (xr7 == yr7) = false := by simpa using er7
                      go_wp2_with fail
                      all_goals
                        go_ret
                        exact ⟨by rw [E.out]; rfl, HN.out⟩
                  · have E := Lib.hid (Nr6.out er6)
                    have ne : (xr6 == yr6) = false := by simpa using er6
                    go_wp2_with fail
                    all_goals
                      go_ret
                      exact ⟨by rw [E.out]; rfl, HN.out⟩
                · have E := Lib.hid (Nr5.out er5)
                  have ne : (xr5 == yr5) = false := by simpa using er5
                  go_wp2_with fail
                  all_goals
                    go_ret
                    exact ⟨by rw [E.out]; rfl, HN.out⟩
              · have E := Lib.hid (Nr4.out er4)
                have ne : (xr4 == yr4) = false := by simpa using er4
                go_wp2_with fail
                all_goals
                  go_ret
                  exact ⟨by rw [E.out]; rfl, HN.out⟩
            · have E := Lib.hid (Nr3.out er3)
              have ne : (xr3 == yr3) = false := by simpa using er3
              go_wp2_with fail
              all_goals
                go_ret
                exact ⟨by rw [E.out]; rfl, HN.out⟩
          · have E := Lib.hid (Nr2.out er2)
            have ne : (xr2 == yr2) = false := by simpa using er2
            go_wp2_with fail
            all_goals
              go_ret
              exact ⟨by rw [E.out]; rfl, HN.out⟩
        · have E := Lib.hid (Nr1.out er1)
          have ne : (xr1 == yr1) = false := by simpa using er1
          go_wp2_with fail
          all_goals
            go_ret
            exact ⟨by rw [E.out]; rfl, HN.out⟩
      · have E := Lib.hid (Nr0.out er0)
        have ne : (xr0 == yr0) = false := by simpa using er0
        go_wp2_with fail
        all_goals
          go_ret
          exact ⟨by rw [E.out]; rfl, HN.out⟩
    · have E := Lib.hid (Npc.out epc)
      have ne : (xpc == ypc) = false := by simpa using epc
      go_wp2_with fail
      go_ret
      exact ⟨by rw [E.out]; rfl, HN.out⟩
  · have E := Lib.hid (Nstate.out estate)
    have ne : (xstate == ystate) = false := by simpa using estate
    go_wp2_with fail
    go_ret
    exact ⟨by rw [E.out]; rfl, HN.out⟩
end Go.Proofs.Ytgdmajockejpgaa.View
