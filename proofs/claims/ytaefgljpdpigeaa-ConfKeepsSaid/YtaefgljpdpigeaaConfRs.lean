/- The walk of the reference's Skeleton (layer 14). Printed by wip/tools/mkRsk14.py. -/
import Derived.Test.YtaefgljpdpigeaaConfSk
namespace Go.Proofs.Ytaefgljpdpigeaa.Conf
open Go.RowKit Go.Fb Go.CodeP Go.BytesP Go.ReaderP
set_option linter.unusedVariables false
set_option maxRecDepth 100000 in
set_option maxHeartbeats 2000000 in
theorem rskeleton_any {w : World} {B : Nat} {c d : Cf} {Al At Ap Bl Bt Bp : Option Addr} {cl ct cp dl dt dp : Nat} (hl : SliceOf (Rep.int .u64) w B Al c.labels.length cl c.labels) (ht : SliceOf (Rep.int .i64) w B At c.table.length ct c.table) (hp : SliceOf repProc w B Ap c.procs.length cp c.procs)
    (gl : SliceOf (Rep.int .u64) w B Bl d.labels.length dl d.labels) (gt : SliceOf (Rep.int .i64) w B Bt d.table.length dt d.table) (gp : SliceOf repProc w B Bp d.procs.length dp d.procs) (hB : B ≤ w.heap.size) :
    Calls Try.prog 24 #[.agg (confC c Al cl At ct Ap cp).toArray, .agg (confC d Bl dl Bt dt Bp dp).toArray] w fun e w' => e = .returned (.bool (eqb (skel c) (skel d))) ∧ New w w' := by
  have k1 : New w (w.alloc (.cells #[.slice Al c.labels.length cl, .slice At c.table.length ct, .int .i64 c.fuel, .int .i64 c.lane, .int .i64 c.locks, .int .i64 c.log, .slice Ap c.procs.length cp] 26)) := (Kept.refl _ _).alloc _
  have k2 := k1.alloc (.cells #[.slice Bl d.labels.length dl, .slice Bt d.table.length dt, .int .i64 d.fuel, .int .i64 d.lane, .int .i64 d.locks, .int .i64 d.log, .slice Bp d.procs.length dp] 26)
  have b1 := (Blk.made w 26 (confC c Al cl At ct Ap cp).toArray).alloc (.cells #[.slice Bl d.labels.length dl, .slice Bt d.table.length dt, .int .i64 d.fuel, .int .i64 d.lane, .int .i64 d.locks, .int .i64 d.log, .slice Bp d.procs.length dp] 26)
  have b2 := Blk.made (w.alloc (.cells #[.slice Al c.labels.length cl, .slice At c.table.length ct, .int .i64 c.fuel, .int .i64 c.lane, .int .i64 c.locks, .int .i64 c.log, .slice Ap c.procs.length cp] 26)) 26 (confC d Bl dl Bt dt Bp dp).toArray
  rw [← size1] at b2
  have bp1 := hp.bound
  have bp2 := gp.bound
  have H1 := Lib.hid (fun W (hW : New w W) => req_u64 (hl.kept hW hB fun _ _ h => h) (gl.kept hW hB fun _ _ h => h))
  have H2 := Lib.hid (fun W (hW : New w W) => req_int (ht.kept hW hB fun _ _ h => h) (gt.kept hW hB fun _ _ h => h))
  have R1 := Lib.hid (fun W (hW : New w W) => hp.kept hW hB fun _ _ h => h)
  have R2 := Lib.hid (fun W (hW : New w W) => gp.kept hW hB fun _ _ h => h)
  unfold confC at b1 b2 ⊢
  clear hl ht hp gl gt gp
  by_cases g0 : c.labels = d.labels
  rotate_left
  · have E := Lib.hid (show eqb (skel c) (skel d) = false from eqb_false fun h => g0 (by unfold skel at h; simp only [Prod.mk.injEq] at h; exact h.1))
    have hh1 := H1.out
    rw [eqb_false g0] at hh1
    have x0 := b1.cell 0
    simp only [List.getElem?_toArray, List.getElem?_cons_zero] at x0
    have y0 := b2.cell 0
    simp only [List.getElem?_toArray, List.getElem?_cons_zero] at y0
    have HK2 := Lib.hid k2
    have HB1 := Lib.hid b1
    have HB2 := Lib.hid b2
    clear k1 k2 b1 b2 H1 H2 g0
    have HH1 := Lib.hid hh1
    clear hh1
    go_enter Try.func24, Try.ntmps24
    go_wp2_with (first | (go_at_call 46; refine (HH1.out _ HK2.out).mono ?_; rintro e w3 ⟨rfl, hn3⟩; have HN3 := Lib.hid (HK2.out.trans hn3); clear hn3))
    go_ret
    rw [E.out]
    exact ⟨rfl, HN3.out⟩
  by_cases g1 : c.table = d.table
  rotate_left
  · have E := Lib.hid (show eqb (skel c) (skel d) = false from eqb_false fun h => g1 (by unfold skel at h; simp only [Prod.mk.injEq] at h; exact h.2.1))
    have hh1 := H1.out
    rw [eqb_true g0] at hh1
    have hh2 := H2.out
    rw [eqb_false g1] at hh2
    have x0 := b1.cell 0
    simp only [List.getElem?_toArray, List.getElem?_cons_zero] at x0
    have y0 := b2.cell 0
    simp only [List.getElem?_toArray, List.getElem?_cons_zero] at y0
    have HK2 := Lib.hid k2
    have HB1 := Lib.hid b1
    have HB2 := Lib.hid b2
    clear k1 k2 b1 b2 H1 H2 g0 g1
    have HH1 := Lib.hid hh1
    clear hh1
    have HH2 := Lib.hid hh2
    clear hh2
    go_enter Try.func24, Try.ntmps24
    go_wp2_with (first | (go_at_call 46; refine (HH1.out _ HK2.out).mono ?_; rintro e w3 ⟨rfl, hn3⟩; have HN3 := Lib.hid (HK2.out.trans hn3); have hb1 := HB1.out.kept hn3 id; have hb2 := HB2.out.kept hn3 id; have x1 := hb1.cell 1; have y1 := hb2.cell 1; simp only [List.getElem?_toArray, List.getElem?_cons_zero, List.getElem?_cons_succ] at x1 y1; have HB1 := Lib.hid hb1; have HB2 := Lib.hid hb2; clear hb1 hb2; clear hn3) | (go_at_call 47; refine (HH2.out _ HN3.out).mono ?_; rintro e w4 ⟨rfl, hn4⟩; have HN4 := Lib.hid (HN3.out.trans hn4); clear hn4))
    go_ret
    rw [E.out]
    exact ⟨rfl, HN4.out⟩
  by_cases g2 : c.fuel = d.fuel
  rotate_left
  · have E := Lib.hid (show eqb (skel c) (skel d) = false from eqb_false fun h => g2 (by unfold skel at h; simp only [Prod.mk.injEq] at h; exact h.2.2.1))
    have hh1 := H1.out
    rw [eqb_true g0] at hh1
    have hh2 := H2.out
    rw [eqb_true g1] at hh2
    have q2 : (c.fuel != d.fuel) = true := by simpa using g2
    have x0 := b1.cell 0
    simp only [List.getElem?_toArray, List.getElem?_cons_zero] at x0
    have y0 := b2.cell 0
    simp only [List.getElem?_toArray, List.getElem?_cons_zero] at y0
    have HK2 := Lib.hid k2
    have HB1 := Lib.hid b1
    have HB2 := Lib.hid b2
    clear k1 k2 b1 b2 H1 H2 g0 g1 g2
    have HH1 := Lib.hid hh1
    clear hh1
    have HH2 := Lib.hid hh2
    clear hh2
    go_enter Try.func24, Try.ntmps24
    go_wp2_with (first | (go_at_call 46; refine (HH1.out _ HK2.out).mono ?_; rintro e w3 ⟨rfl, hn3⟩; have HN3 := Lib.hid (HK2.out.trans hn3); have hb1 := HB1.out.kept hn3 id; have hb2 := HB2.out.kept hn3 id; have x1 := hb1.cell 1; have y1 := hb2.cell 1; simp only [List.getElem?_toArray, List.getElem?_cons_zero, List.getElem?_cons_succ] at x1 y1; have HB1 := Lib.hid hb1; have HB2 := Lib.hid hb2; clear hb1 hb2; clear hn3) | (go_at_call 47; refine (HH2.out _ HN3.out).mono ?_; rintro e w4 ⟨rfl, hn4⟩; have HN4 := Lib.hid (HN3.out.trans hn4); have hb1 := HB1.out.kept hn4 id; have hb2 := HB2.out.kept hn4 id; have x2 := hb1.cell 2; have y2 := hb2.cell 2; simp only [List.getElem?_toArray, List.getElem?_cons_zero, List.getElem?_cons_succ] at x2 y2; have HB1 := Lib.hid hb1; have HB2 := Lib.hid hb2; clear hb1 hb2; clear hn4))
    go_ret
    rw [E.out]
    exact ⟨rfl, HN4.out⟩
  by_cases g3 : c.lane = d.lane
  rotate_left
  · have E := Lib.hid (show eqb (skel c) (skel d) = false from eqb_false fun h => g3 (by unfold skel at h; simp only [Prod.mk.injEq] at h; exact h.2.2.2.1))
    have hh1 := H1.out
    rw [eqb_true g0] at hh1
    have hh2 := H2.out
    rw [eqb_true g1] at hh2
    have q2 : (c.fuel != d.fuel) = false := by simpa using g2
    have q3 : (c.lane != d.lane) = true := by simpa using g3
    have x0 := b1.cell 0
    simp only [List.getElem?_toArray, List.getElem?_cons_zero] at x0
    have y0 := b2.cell 0
    simp only [List.getElem?_toArray, List.getElem?_cons_zero] at y0
    have HK2 := Lib.hid k2
    have HB1 := Lib.hid b1
    have HB2 := Lib.hid b2
    clear k1 k2 b1 b2 H1 H2 g0 g1 g2 g3
    have HH1 := Lib.hid hh1
    clear hh1
    have HH2 := Lib.hid hh2
    clear hh2
    go_enter Try.func24, Try.ntmps24
    go_wp2_with (first | (go_at_call 46; refine (HH1.out _ HK2.out).mono ?_; rintro e w3 ⟨rfl, hn3⟩; have HN3 := Lib.hid (HK2.out.trans hn3); have hb1 := HB1.out.kept hn3 id; have hb2 := HB2.out.kept hn3 id; have x1 := hb1.cell 1; have y1 := hb2.cell 1; simp only [List.getElem?_toArray, List.getElem?_cons_zero, List.getElem?_cons_succ] at x1 y1; have HB1 := Lib.hid hb1; have HB2 := Lib.hid hb2; clear hb1 hb2; clear hn3) | (go_at_call 47; refine (HH2.out _ HN3.out).mono ?_; rintro e w4 ⟨rfl, hn4⟩; have HN4 := Lib.hid (HN3.out.trans hn4); have hb1 := HB1.out.kept hn4 id; have hb2 := HB2.out.kept hn4 id; have x2 := hb1.cell 2; have y2 := hb2.cell 2; have x3 := hb1.cell 3; have y3 := hb2.cell 3; simp only [List.getElem?_toArray, List.getElem?_cons_zero, List.getElem?_cons_succ] at x2 y2 x3 y3; have HB1 := Lib.hid hb1; have HB2 := Lib.hid hb2; clear hb1 hb2; clear hn4))
    go_ret
    rw [E.out]
    exact ⟨rfl, HN4.out⟩
  by_cases g4 : c.locks = d.locks
  rotate_left
  · have E := Lib.hid (show eqb (skel c) (skel d) = false from eqb_false fun h => g4 (by unfold skel at h; simp only [Prod.mk.injEq] at h; exact h.2.2.2.2.1))
    have hh1 := H1.out
    rw [eqb_true g0] at hh1
    have hh2 := H2.out
    rw [eqb_true g1] at hh2
    have q2 : (c.fuel != d.fuel) = false := by simpa using g2
    have q3 : (c.lane != d.lane) = false := by simpa using g3
    have q4 : (c.locks != d.locks) = true := by simpa using g4
    have x0 := b1.cell 0
    simp only [List.getElem?_toArray, List.getElem?_cons_zero] at x0
    have y0 := b2.cell 0
    simp only [List.getElem?_toArray, List.getElem?_cons_zero] at y0
    have HK2 := Lib.hid k2
    have HB1 := Lib.hid b1
    have HB2 := Lib.hid b2
    clear k1 k2 b1 b2 H1 H2 g0 g1 g2 g3 g4
    have HH1 := Lib.hid hh1
    clear hh1
    have HH2 := Lib.hid hh2
    clear hh2
    go_enter Try.func24, Try.ntmps24
    go_wp2_with (first | (go_at_call 46; refine (HH1.out _ HK2.out).mono ?_; rintro e w3 ⟨rfl, hn3⟩; have HN3 := Lib.hid (HK2.out.trans hn3); have hb1 := HB1.out.kept hn3 id; have hb2 := HB2.out.kept hn3 id; have x1 := hb1.cell 1; have y1 := hb2.cell 1; simp only [List.getElem?_toArray, List.getElem?_cons_zero, List.getElem?_cons_succ] at x1 y1; have HB1 := Lib.hid hb1; have HB2 := Lib.hid hb2; clear hb1 hb2; clear hn3) | (go_at_call 47; refine (HH2.out _ HN3.out).mono ?_; rintro e w4 ⟨rfl, hn4⟩; have HN4 := Lib.hid (HN3.out.trans hn4); have hb1 := HB1.out.kept hn4 id; have hb2 := HB2.out.kept hn4 id; have x2 := hb1.cell 2; have y2 := hb2.cell 2; have x3 := hb1.cell 3; have y3 := hb2.cell 3; have x4 := hb1.cell 4; have y4 := hb2.cell 4; simp only [List.getElem?_toArray, List.getElem?_cons_zero, List.getElem?_cons_succ] at x2 y2 x3 y3 x4 y4; have HB1 := Lib.hid hb1; have HB2 := Lib.hid hb2; clear hb1 hb2; clear hn4))
    go_ret
    rw [E.out]
    exact ⟨rfl, HN4.out⟩
  by_cases g5 : c.log = d.log
  rotate_left
  · have E := Lib.hid (show eqb (skel c) (skel d) = false from eqb_false fun h => g5 (by unfold skel at h; simp only [Prod.mk.injEq] at h; exact h.2.2.2.2.2.1))
    have hh1 := H1.out
    rw [eqb_true g0] at hh1
    have hh2 := H2.out
    rw [eqb_true g1] at hh2
    have q2 : (c.fuel != d.fuel) = false := by simpa using g2
    have q3 : (c.lane != d.lane) = false := by simpa using g3
    have q4 : (c.locks != d.locks) = false := by simpa using g4
    have q5 : (c.log != d.log) = true := by simpa using g5
    have x0 := b1.cell 0
    simp only [List.getElem?_toArray, List.getElem?_cons_zero] at x0
    have y0 := b2.cell 0
    simp only [List.getElem?_toArray, List.getElem?_cons_zero] at y0
    have HK2 := Lib.hid k2
    have HB1 := Lib.hid b1
    have HB2 := Lib.hid b2
    clear k1 k2 b1 b2 H1 H2 g0 g1 g2 g3 g4 g5
    have HH1 := Lib.hid hh1
    clear hh1
    have HH2 := Lib.hid hh2
    clear hh2
    go_enter Try.func24, Try.ntmps24
    go_wp2_with (first | (go_at_call 46; refine (HH1.out _ HK2.out).mono ?_; rintro e w3 ⟨rfl, hn3⟩; have HN3 := Lib.hid (HK2.out.trans hn3); have hb1 := HB1.out.kept hn3 id; have hb2 := HB2.out.kept hn3 id; have x1 := hb1.cell 1; have y1 := hb2.cell 1; simp only [List.getElem?_toArray, List.getElem?_cons_zero, List.getElem?_cons_succ] at x1 y1; have HB1 := Lib.hid hb1; have HB2 := Lib.hid hb2; clear hb1 hb2; clear hn3) | (go_at_call 47; refine (HH2.out _ HN3.out).mono ?_; rintro e w4 ⟨rfl, hn4⟩; have HN4 := Lib.hid (HN3.out.trans hn4); have hb1 := HB1.out.kept hn4 id; have hb2 := HB2.out.kept hn4 id; have x2 := hb1.cell 2; have y2 := hb2.cell 2; have x3 := hb1.cell 3; have y3 := hb2.cell 3; have x4 := hb1.cell 4; have y4 := hb2.cell 4; have x5 := hb1.cell 5; have y5 := hb2.cell 5; simp only [List.getElem?_toArray, List.getElem?_cons_zero, List.getElem?_cons_succ] at x2 y2 x3 y3 x4 y4 x5 y5; have HB1 := Lib.hid hb1; have HB2 := Lib.hid hb2; clear hb1 hb2; clear hn4))
    go_ret
    rw [E.out]
    exact ⟨rfl, HN4.out⟩
  by_cases g6 : c.procs.length = d.procs.length
  rotate_left
  · have E := Lib.hid (show eqb (skel c) (skel d) = false from eqb_false fun h => g6 (by unfold skel at h; simp only [Prod.mk.injEq] at h; have := congrArg List.length h.2.2.2.2.2.2; simpa using this))
    have q6 : ((c.procs.length : Int) != (d.procs.length : Int)) = true := by simp; omega
    have hh1 := H1.out
    rw [eqb_true g0] at hh1
    have hh2 := H2.out
    rw [eqb_true g1] at hh2
    have q2 : (c.fuel != d.fuel) = false := by simpa using g2
    have q3 : (c.lane != d.lane) = false := by simpa using g3
    have q4 : (c.locks != d.locks) = false := by simpa using g4
    have q5 : (c.log != d.log) = false := by simpa using g5
    have x0 := b1.cell 0
    simp only [List.getElem?_toArray, List.getElem?_cons_zero] at x0
    have y0 := b2.cell 0
    simp only [List.getElem?_toArray, List.getElem?_cons_zero] at y0
    have HK2 := Lib.hid k2
    have HB1 := Lib.hid b1
    have HB2 := Lib.hid b2
    clear k1 k2 b1 b2 H1 H2 g0 g1 g2 g3 g4 g5 g6
    have HH1 := Lib.hid hh1
    clear hh1
    have HH2 := Lib.hid hh2
    clear hh2
    go_enter Try.func24, Try.ntmps24
    go_wp2_with (first | (go_at_call 46; refine (HH1.out _ HK2.out).mono ?_; rintro e w3 ⟨rfl, hn3⟩; have HN3 := Lib.hid (HK2.out.trans hn3); have hb1 := HB1.out.kept hn3 id; have hb2 := HB2.out.kept hn3 id; have x1 := hb1.cell 1; have y1 := hb2.cell 1; simp only [List.getElem?_toArray, List.getElem?_cons_zero, List.getElem?_cons_succ] at x1 y1; have HB1 := Lib.hid hb1; have HB2 := Lib.hid hb2; clear hb1 hb2; clear hn3) | (go_at_call 47; refine (HH2.out _ HN3.out).mono ?_; rintro e w4 ⟨rfl, hn4⟩; have HN4 := Lib.hid (HN3.out.trans hn4); have hb1 := HB1.out.kept hn4 id; have hb2 := HB2.out.kept hn4 id; have x2 := hb1.cell 2; have y2 := hb2.cell 2; have x3 := hb1.cell 3; have y3 := hb2.cell 3; have x4 := hb1.cell 4; have y4 := hb2.cell 4; have x5 := hb1.cell 5; have y5 := hb2.cell 5; have x6 := hb1.cell 6; have y6 := hb2.cell 6; simp only [List.getElem?_toArray, List.getElem?_cons_zero, List.getElem?_cons_succ] at x2 y2 x3 y3 x4 y4 x5 y5 x6 y6; have HB1 := Lib.hid hb1; have HB2 := Lib.hid hb2; clear hb1 hb2; clear hn4))
    go_ret
    rw [E.out]
    exact ⟨rfl, HN4.out⟩
  have T1 := Lib.hid (fun j (a : j < c.procs.length) (b : j < d.procs.length) (ht : (c.procs.map (·.1)).take j = (d.procs.map (·.1)).take j) (e : c.procs[j].1 = d.procs[j].1) => take_next (a := c.procs.map (·.1)) (b := d.procs.map (·.1)) (by simpa using a) (by simpa using b) ht (by simpa using e))
  have T2 := Lib.hid (fun j (a : j < c.procs.length) (b : j < d.procs.length) (e : ¬ c.procs[j].1 = d.procs[j].1) => show eqb (skel c) (skel d) = false from eqb_false fun h => e (by
    unfold skel at h
    simp only [Prod.mk.injEq] at h
    have := congrArg (fun l => l[j]?) h.2.2.2.2.2.2
    simpa [a, b] using this))
  have T3 := Lib.hid (fun (ht : (c.procs.map (·.1)).take c.procs.length = (d.procs.map (·.1)).take c.procs.length) => show eqb (skel c) (skel d) = true from eqb_true (by
    rw [List.take_of_length_le (by simp), List.take_of_length_le (by simp; omega)] at ht
    unfold skel; rw [g0, g1, g2, g3, g4, g5, ht]))
  have q6 : ((c.procs.length : Int) != (d.procs.length : Int)) = false := by simp; omega
  have hh1 := H1.out
  rw [eqb_true g0] at hh1
  have hh2 := H2.out
  rw [eqb_true g1] at hh2
  have q2 : (c.fuel != d.fuel) = false := by simpa using g2
  have q3 : (c.lane != d.lane) = false := by simpa using g3
  have q4 : (c.locks != d.locks) = false := by simpa using g4
  have q5 : (c.log != d.log) = false := by simpa using g5
  have x0 := b1.cell 0
  simp only [List.getElem?_toArray, List.getElem?_cons_zero] at x0
  have y0 := b2.cell 0
  simp only [List.getElem?_toArray, List.getElem?_cons_zero] at y0
  have HK2 := Lib.hid k2
  have HB1 := Lib.hid b1
  have HB2 := Lib.hid b2
  have HG6 := Lib.hid g6
  clear k1 k2 b1 b2 H1 H2 g0 g1 g2 g3 g4 g5 g6
  have HH1 := Lib.hid hh1
  clear hh1
  have HH2 := Lib.hid hh2
  clear hh2
  go_enter Try.func24, Try.ntmps24
  go_wp2_with (first | (go_at_call 46; refine (HH1.out _ HK2.out).mono ?_; rintro e w3 ⟨rfl, hn3⟩; have HN3 := Lib.hid (HK2.out.trans hn3); have hb1 := HB1.out.kept hn3 id; have hb2 := HB2.out.kept hn3 id; have x1 := hb1.cell 1; have y1 := hb2.cell 1; simp only [List.getElem?_toArray, List.getElem?_cons_zero, List.getElem?_cons_succ] at x1 y1; have HB1 := Lib.hid hb1; have HB2 := Lib.hid hb2; clear hb1 hb2; clear hn3) | (go_at_call 47; refine (HH2.out _ HN3.out).mono ?_; rintro e w4 ⟨rfl, hn4⟩; have HN4 := Lib.hid (HN3.out.trans hn4); have hb1 := HB1.out.kept hn4 id; have hb2 := HB2.out.kept hn4 id; have x2 := hb1.cell 2; have y2 := hb2.cell 2; have x3 := hb1.cell 3; have y3 := hb2.cell 3; have x4 := hb1.cell 4; have y4 := hb2.cell 4; have x5 := hb1.cell 5; have y5 := hb2.cell 5; have x6 := hb1.cell 6; have y6 := hb2.cell 6; simp only [List.getElem?_toArray, List.getElem?_cons_zero, List.getElem?_cons_succ] at x2 y2 x3 y3 x4 y4 x5 y5 x6 y6; have HB1 := Lib.hid hb1; have HB2 := Lib.hid hb2; clear hb1 hb2; clear hn4))
  clear x0 y0 x1 y1 x2 y2 x3 y3 x4 y4 x5 y5 q2 q3 q4 q5
  go_loopw [5] (fun s wr => ∃ j q : Nat, j ≤ c.procs.length ∧ s = .int .i64 j ∧ wr = w4.drewN q ∧ Hid ((c.procs.map (·.1)).take j = (d.procs.map (·.1)).take j)) (fun s _ => (c.procs.length - intOf s).toNat)
  case atStart => exact ⟨0, 0, Nat.zero_le _, rfl, rfl, Lib.hid rfl⟩
  case round =>
    obtain ⟨j, q, hj, rfl, rfl, D⟩ := hrel
    by_cases hlt : j < c.procs.length
    · have a2 : j < d.procs.length := by have := HG6.out; omega
      obtain ⟨g1, o1, rfl, k1, hc1⟩ := proc_at (R1.out w4 HN4.out) (by omega)
      obtain ⟨g2, o2, rfl, k2, hc2⟩ := proc_at (R2.out w4 HN4.out) (by omega)
      obtain ⟨P1, d1, ⟨z0, -⟩, -, -⟩ := hc1 j hlt
      obtain ⟨P2, d2, ⟨v0, -⟩, -, -⟩ := hc2 j a2
      have D2 := Lib.hid (fun e => T1.out j hlt a2 D.out e)
      have D3 := Lib.hid (fun e => T2.out j hlt a2 e)
      have hlt1 : (j : Int) < (c.procs.length : Int) := by omega
      have hlt2 : (j : Int) < (d.procs.length : Int) := by omega
      clear hc1 hc2
      generalize c.procs[j].1 = u1 at *
      generalize d.procs[j].1 = v1 at *
      by_cases he : u1 = v1
      · subst he
        have D4 := Lib.hid (D2.out rfl)
        go_wp2_with fail
        go_quiet (fail)
        go_wp2_with fail
        exact ⟨⟨j + 1, _, by omega, by go_num, rfl, D4⟩, by simp [intOf]; omega⟩
      · have E := Lib.hid (D3.out he)
        have he' : (u1 != v1) = true := by simpa using he
        clear he
        go_wp2_with fail
        go_quiet (fail)
        go_wp2_with fail
        go_ret
        rw [E.out]
        exact ⟨rfl, (HN4.out.drewN _).drewN _⟩
    · obtain rfl : j = c.procs.length := by omega
      have E := Lib.hid (T3.out D.out)
      go_wp2_with fail
      go_ret
      rw [E.out]
      exact ⟨rfl, HN4.out.drewN _⟩
theorem rsame_code {w : World} {B B' : Nat} {A A' : Option Addr} {n n' c c' : Nat} {l : List Ins} (ha : SliceOf Code.repIns w B A n c l) (hb : SliceOf Code.repIns w B' A' n' c' l) :
    Calls Try.prog 22 #[.slice A n c, .slice A' n' c'] w fun e w' => e = .returned (.bool true) ∧ ∃ q, w' = w.drewN q := by
  obtain rfl : n' = n := by rw [hb.len, ha.len]
  have hbd := ha.bound
  have hbd' := hb.bound
  have HN := Lib.hid ha.len
  have HA := Lib.hid ha
  have HB := Lib.hid hb
  clear ha hb
  go_enter Try.func22, Try.ntmps22
  go_wp2_with fail
  go_loopw [5] (fun i wr => ∃ k : Nat, k ≤ n' ∧ i = .int .i64 k ∧ ∃ q, wr = w.drewN q) (fun i _ => (n' - intOf i).toNat)
  case atStart => exact ⟨0, by omega, rfl, 0, rfl⟩
  case round =>
    obtain ⟨k, hk, rfl, q, rfl⟩ := hrel
    by_cases hlt : k < n'
    · have hkl : k < l.length := by have := HN.out; omega
      obtain ⟨b, o, rfl, _, h1⟩ := Code.ins_at HA.out (by omega)
      obtain ⟨b', o', rfl, _, h2⟩ := Code.ins_at HB.out (by omega)
      obtain ⟨c0, c1, c2, c3, c4⟩ := h1 k hkl
      obtain ⟨d0, d1, d2, d3, d4⟩ := h2 k hkl
      have hlt' : (k : Int) < (n' : Int) := by omega
      clear h1 h2
      generalize l[k] = s at *
      go_wp2_with fail
      go_quiet (fail)
      go_wp2_with fail
      exact ⟨⟨k + 1, by omega, by go_num, _, rfl⟩, by simp [intOf]; omega⟩
    · obtain rfl : k = n' := by omega
      go_wp2_with fail
      go_ret
      exact ⟨rfl, _, rfl⟩
set_option maxRecDepth 100000 in
set_option maxHeartbeats 2000000 in
theorem rsame_any {w : World} {B : Nat} {c : Cf} {Al At Ap Bl Bt Bp : Option Addr} {cl ct cp dl dt dp : Nat} (hl : SliceOf (Rep.int .u64) w B Al c.labels.length cl c.labels) (ht : SliceOf (Rep.int .i64) w B At c.table.length ct c.table) (hp : SliceOf repProc w B Ap c.procs.length cp c.procs)
    (gl : SliceOf (Rep.int .u64) w B Bl c.labels.length dl c.labels) (gt : SliceOf (Rep.int .i64) w B Bt c.table.length dt c.table) (gp : SliceOf repProc w B Bp c.procs.length dp c.procs) (hB : B ≤ w.heap.size) :
    Calls Try.prog 20 #[.agg (confC c Al cl At ct Ap cp).toArray, .agg (confC c Bl dl Bt dt Bp dp).toArray] w fun e w' => e = .returned (.bool true) ∧ New w w' := by
  have k1 : New w (w.alloc (.cells #[.slice Al c.labels.length cl, .slice At c.table.length ct, .int .i64 c.fuel, .int .i64 c.lane, .int .i64 c.locks, .int .i64 c.log, .slice Ap c.procs.length cp] 26)) := (Kept.refl _ _).alloc _
  have k2 := k1.alloc (.cells #[.slice Bl c.labels.length dl, .slice Bt c.table.length dt, .int .i64 c.fuel, .int .i64 c.lane, .int .i64 c.locks, .int .i64 c.log, .slice Bp c.procs.length dp] 26)
  have b1 := (Blk.made w 26 (confC c Al cl At ct Ap cp).toArray).alloc (.cells #[.slice Bl c.labels.length dl, .slice Bt c.table.length dt, .int .i64 c.fuel, .int .i64 c.lane, .int .i64 c.locks, .int .i64 c.log, .slice Bp c.procs.length dp] 26)
  have b2 := Blk.made (w.alloc (.cells #[.slice Al c.labels.length cl, .slice At c.table.length ct, .int .i64 c.fuel, .int .i64 c.lane, .int .i64 c.locks, .int .i64 c.log, .slice Ap c.procs.length cp] 26)) 26 (confC c Bl dl Bt dt Bp dp).toArray
  rw [← size1] at b2
  have bp1 := hp.bound
  have bp2 := gp.bound
  have hsk := rskeleton_any (hl.kept k2 hB fun _ _ h => h) (ht.kept k2 hB fun _ _ h => h) (hp.kept k2 hB fun _ _ h => h) (gl.kept k2 hB fun _ _ h => h) (gt.kept k2 hB fun _ _ h => h) (gp.kept k2 hB fun _ _ h => h) (Nat.le_trans hB k2.size)
  rw [eqb_refl] at hsk
  have R1 := Lib.hid (fun W (hW : New w W) => hp.kept hW hB fun _ _ h => h)
  have R2 := Lib.hid (fun W (hW : New w W) => gp.kept hW hB fun _ _ h => h)
  unfold confC at b1 b2 hsk ⊢
  have HB0 := Lib.hid hB
  clear hl ht hp gl gt gp k1 hB
  have x0 := b1.cell 0
  have y0 := b2.cell 0
  have x1 := b1.cell 1
  have y1 := b2.cell 1
  have x2 := b1.cell 2
  have y2 := b2.cell 2
  have x3 := b1.cell 3
  have y3 := b2.cell 3
  have x4 := b1.cell 4
  have y4 := b2.cell 4
  have x5 := b1.cell 5
  have y5 := b2.cell 5
  have x6 := b1.cell 6
  have y6 := b2.cell 6
  simp only [List.getElem?_toArray, List.getElem?_cons_zero, List.getElem?_cons_succ] at x0 y0 x1 y1 x2 y2 x3 y3 x4 y4 x5 y5 x6 y6
  have K2 := Lib.hid k2
  have B1 := Lib.hid b1
  have B2 := Lib.hid b2
  have HSK := Lib.hid hsk
  clear k2 b1 b2 hsk
  go_enter Try.func20, Try.ntmps20
  go_wp2_with (go_at_call 24; refine HSK.out.mono ?_; rintro e w3 ⟨rfl, hn3⟩; have HN3 := Lib.hid (K2.out.trans hn3); have hb1 := B1.out.kept hn3 id; have hb2 := B2.out.kept hn3 id; have x6 := hb1.cell 6; have y6 := hb2.cell 6; simp only [List.getElem?_toArray, List.getElem?_cons_zero, List.getElem?_cons_succ] at x6 y6; have HB1 := Lib.hid hb1; have HB2 := Lib.hid hb2; clear hn3 hb1 hb2)
  clear x0 y0 x1 y1 x2 y2 x3 y3 x4 y4 x5 y5 x6 y6
  go_loopw [5, 6] (fun b s wr => ∃ j : Nat, j ≤ c.procs.length ∧ b = .bool true ∧ s = .int .i64 j ∧ New w3 wr) (fun _ s _ => (c.procs.length - intOf s).toNat)
  case atStart => exact ⟨0, Nat.zero_le _, rfl, rfl, Kept.refl _ _⟩
  case round =>
    obtain ⟨j, hj, rfl, rfl, hnr⟩ := hrel
    have hb1 := HB1.out.kept hnr id
    have hb2 := HB2.out.kept hnr id
    have x6 := hb1.cell 6
    have y6 := hb2.cell 6
    simp only [List.getElem?_toArray, List.getElem?_cons_zero, List.getElem?_cons_succ] at x6 y6
    by_cases hlt : j < c.procs.length
    · have hlt1 : (j : Int) < (c.procs.length : Int) := by omega
      obtain ⟨g1, o1, rfl, k1, hc1⟩ := proc_at (R1.out wr (HN3.out.trans hnr)) (by omega)
      obtain ⟨g2, o2, rfl, k2, hc2⟩ := proc_at (R2.out wr (HN3.out.trans hnr)) (by omega)
      obtain ⟨P1, d1, ⟨-, z1⟩, s1, -⟩ := hc1 j hlt
      obtain ⟨P2, d2, ⟨-, v1⟩, s2, -⟩ := hc2 j hlt
      have hcd := fun q => rsame_code (s1.drewN q) (s2.drewN q)
      generalize c.procs[j].2 = l at *
      clear hc1 hc2 s1 s2
      have HCD := Lib.hid hcd
      have HNR := Lib.hid hnr
      have HQ1 := Lib.hid hb1
      have HQ2 := Lib.hid hb2
      clear hcd hnr hb1 hb2
      go_wp2_with fail
      go_quiet (exact Calls.quiet_of (HCD.out _))
      go_wp2_with fail
      exact ⟨⟨j + 1, by omega, rfl, by go_num, HNR.out.drewN _⟩, by simp [intOf]; omega⟩
    · obtain rfl : j = c.procs.length := by omega
      have HNR := Lib.hid hnr
      clear hnr
      clear hb1 hb2
      go_wp2_with fail
      go_ret
      exact ⟨rfl, HN3.out.trans HNR.out⟩
end Go.Proofs.Ytaefgljpdpigeaa.Conf
