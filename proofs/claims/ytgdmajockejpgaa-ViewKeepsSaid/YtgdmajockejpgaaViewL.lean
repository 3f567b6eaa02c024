/- The walk of package view's Same (layer 18). -/
import Derived.Test.YtgdmajockejpgaaViewJ
import Derived.Test.YtgdmajockejpgaaViewK
namespace Go.Proofs.Ytgdmajockejpgaa.View
open Go.RowKit Go.Fb
set_option linter.unusedVariables false
structure State where
  tick : Int
  parts : List Part
  procs : List Process
def repState : Rep State where
  size := 3
  cells w B x cs := ∃ Ap np cp Aq nq cq, cs = [.int .i64 x.tick, .slice Ap np cp, .slice Aq nq cq] ∧ SliceOf repPart w B Ap np cp x.parts ∧ SliceOf repProc w B Aq nq cq x.procs
  length h := by obtain ⟨_, _, _, _, _, _, h, _⟩ := h; rw [h]; rfl
  stays hw h := by obtain ⟨a1, a2, a3, a4, a5, a6, h, h1, h2⟩ := h; exact ⟨a1, a2, a3, a4, a5, a6, h, h1.stays hw, h2.stays hw⟩
  more hw h := by obtain ⟨a1, a2, a3, a4, a5, a6, h, h1, h2⟩ := h; exact ⟨a1, a2, a3, a4, a5, a6, h, h1.more hw, h2.more hw⟩
set_option maxHeartbeats 4000000 in
set_option maxRecDepth 100000 in
theorem same_state {w : World} {B : Nat} {x y : State} {a0 a1 a2 b0 b1 b2 : Value} (h1 : repState.cells w B x [a0, a1, a2]) (h2 : repState.cells w B y [b0, b1, b2]) (hB : B ≤ w.heap.size) :
    Calls Try.prog 13 #[.agg #[a0, a1, a2], .agg #[b0, b1, b2]] w fun e w' => e = .returned (.bool (eqb x y)) ∧ New w w' := by
  obtain ⟨p0, p1, p2, p3, p4, p5, h1, s1x, s2x⟩ := h1
  obtain ⟨q0, q1, q2, q3, q4, q5, h2, s1y, s2y⟩ := h2
  simp only [List.cons.injEq, and_true] at h1 h2
  obtain ⟨rfl, rfl, rfl⟩ := h1
  obtain ⟨rfl, rfl, rfl⟩ := h2
  have C1 : Hid (∀ W, New w W → Calls _ _ _ W fun e w' => e = .returned (.bool (eqb x.parts y.parts)) ∧ New W w') := Lib.hid fun W hW => gsame_part (s1x.kept hW hB fun _ _ h => h) (s1y.kept hW hB fun _ _ h => h) (Nat.le_trans hB hW.size)
  have C2 : Hid (∀ W, New w W → Calls _ _ _ W fun e w' => e = .returned (.bool (eqb x.procs y.procs)) ∧ New W w') := Lib.hid fun W hW => gsame_proc (s2x.kept hW hB fun _ _ h => h) (s2y.kept hW hB fun _ _ h => h) (Nat.le_trans hB hW.size)
  have HE : Hid (x.tick = y.tick → x.parts = y.parts → x.procs = y.procs → eqb x y = true) := Lib.hid fun _ _ _ => eqb_true (by cases x; cases y; simp_all)
  have Ntick := Lib.hid (fun (h : ¬ x.tick = y.tick) => show eqb x y = false from eqb_false fun e => h (by rw [e]))
  have Nparts := Lib.hid (fun (h : ¬ x.parts = y.parts) => show eqb x y = false from eqb_false fun e => h (by rw [e]))
  have Nprocs := Lib.hid (fun (h : ¬ x.procs = y.procs) => show eqb x y = false from eqb_false fun e => h (by rw [e]))
  have b1 : Blk ((w.alloc (.cells #[.int .i64 x.tick, .slice p0 p1 p2, .slice p3 p4 p5] 30)).alloc (.cells #[.int .i64 y.tick, .slice q0 q1 q2, .slice q3 q4 q5] 30)) w.heap.size 30 #[.int .i64 x.tick, .slice p0 p1 p2, .slice p3 p4 p5] := (Blk.made _ _ _).alloc _
  have b2 : Blk ((w.alloc (.cells #[.int .i64 x.tick, .slice p0 p1 p2, .slice p3 p4 p5] 30)).alloc (.cells #[.int .i64 y.tick, .slice q0 q1 q2, .slice q3 q4 q5] 30)) (w.heap.size + 1) 30 #[.int .i64 y.tick, .slice q0 q1 q2, .slice q3 q4 q5] := Blk.made_at _ _ _ _ (by simp)
  have hn : New w ((w.alloc (.cells #[.int .i64 x.tick, .slice p0 p1 p2, .slice p3 p4 p5] 30)).alloc (.cells #[.int .i64 y.tick, .slice q0 q1 q2, .slice q3 q4 q5] 30)) := ((Kept.refl _ _).alloc _).alloc _
  have ks1x := s1x.bound
  have ks1y := s1y.bound
  have ks2x := s2x.bound
  have ks2y := s2y.bound
  clear s1x s1y s2x s2y
  generalize eqb x y = res at *
  generalize x.tick = xtick at *
  generalize y.tick = ytick at *
  generalize x.parts = xparts at *
  generalize y.parts = yparts at *
  generalize x.procs = xprocs at *
  generalize y.procs = yprocs at *
  have B1 := Lib.hid b1
  have B2 := Lib.hid b2
  have HN := Lib.hid hn
  clear b1 b2 hn
  go_enter Try.func13, Try.ntmps13
  go_upto_region 1 with (fail)
  generalize ((w.alloc (.cells #[.int .i64 xtick, .slice p0 p1 p2, .slice p3 p4 p5] 30)).alloc (.cells #[.int .i64 ytick, .slice q0 q1 q2, .slice q3 q4 q5] 30)) = w2 at *
  generalize w.heap.size = g1 at *
  have u0 := B1.out.cell 0
  have u1 := B1.out.cell 1
  have u2 := B1.out.cell 2
  have v0 := B2.out.cell 0
  have v1 := B2.out.cell 1
  have v2 := B2.out.cell 2
  simp only [List.getElem?_toArray, List.getElem?_cons_zero, List.getElem?_cons_succ] at u0 u1 u2 v0 v1 v2
  by_cases etick : xtick = ytick
  · subst etick
    by_cases eparts : xparts = yparts
    · have c1 := C1.out w2 HN.out
      rw [eqb_true eparts] at c1
      have D1 := Lib.hid c1
      clear c1
      go_wp2_with fail
      refine D1.out.mono ?_
      rintro e w3 ⟨rfl, m1⟩
      have M1 := Lib.hid (HN.out.trans m1)
      have B11 := Lib.hid (B1.out.kept m1 id)
      have B21 := Lib.hid (B2.out.kept m1 id)
      clear m1
      have u2 := B11.out.cell 2
      have v2 := B21.out.cell 2
      simp only [List.getElem?_toArray, List.getElem?_cons_zero, List.getElem?_cons_succ] at u2 v2
      by_cases eprocs : xprocs = yprocs
      · have c2 := C2.out w3 M1.out
        rw [eqb_true eprocs] at c2
        have D2 := Lib.hid c2
        clear c2
        go_wp2_with fail
        refine D2.out.mono ?_
        rintro e w4 ⟨rfl, m2⟩
        have M2 := Lib.hid (M1.out.trans m2)
        clear m2
        have E := Lib.hid (HE.out (by first | rfl | trivial) eparts eprocs)
        go_wp2_with fail
        go_ret
        exact ⟨by rw [E.out]; rfl, M2.out⟩
      · have c2 := C2.out w3 M1.out
        rw [eqb_false eprocs] at c2
        have D2 := Lib.hid c2
        clear c2
        have E := Lib.hid (Nprocs.out eprocs)
        go_wp2_with fail
        refine D2.out.mono ?_
        rintro e w4 ⟨rfl, m2⟩
        have M2 := Lib.hid (M1.out.trans m2)
        clear m2
        go_wp2_with fail
        go_ret
        exact ⟨by rw [E.out]; rfl, M2.out⟩
    · have c1 := C1.out w2 HN.out
      rw [eqb_false eparts] at c1
      have D1 := Lib.hid c1
      clear c1
      have E := Lib.hid (Nparts.out eparts)
      go_wp2_with fail
      refine D1.out.mono ?_
      rintro e w3 ⟨rfl, m1⟩
      have M1 := Lib.hid (HN.out.trans m1)
      clear m1
      go_wp2_with fail
      go_ret
      exact ⟨by rw [E.out]; rfl, M1.out⟩
  · have E := Lib.hid (Ntick.out etick)
    have ne : (xtick == ytick) = false := by simpa using etick
    go_wp2_with fail
    go_ret
    exact ⟨by rw [E.out]; rfl, HN.out⟩
end Go.Proofs.Ytgdmajockejpgaa.View
