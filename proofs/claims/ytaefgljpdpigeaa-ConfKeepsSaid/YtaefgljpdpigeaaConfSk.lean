/- The walks of Skeleton (layer 14): the program's. Printed by wip/tools/mkSk14.py. -/
import Derived.Test.YtaefgljpdpigeaaConfEq
namespace Go.Proofs.Ytaefgljpdpigeaa.Conf
open Go.RowKit Go.Fb Go.CodeP Go.BytesP Go.ReaderP
set_option linter.unusedVariables false
/-- What a config is but for its programs. -/
def skel (c : Cf) : List Int × List Int × Int × Int × Int × Int × List Int := (c.labels, c.table, c.fuel, c.lane, c.locks, c.log, c.procs.map (·.1))
theorem part_same {a b : Int} {v1 v2 : Value} (w : World) : Calls Try.prog 36 #[.agg #[.int .i64 a, v1], .agg #[.int .i64 b, v2]] w fun e w' => e = .returned (.bool (eqb a b)) ∧ New w w' := by
  by_cases h : a = b
  · subst h
    rw [eqb_refl]
    go_enter Try.func36, Try.ntmps36
    go_wp2_with fail
    go_ret
    exact ⟨by simp [Array.getD], ((Kept.refl _ _).alloc _).alloc _⟩
  · rw [eqb_false h]
    have h' : (a == b) = false := by simpa using h
    clear h
    go_enter Try.func36, Try.ntmps36
    go_wp2_with fail
    go_ret
    exact ⟨by simp [Array.getD], ((Kept.refl _ _).alloc _).alloc _⟩
set_option maxHeartbeats 2000000 in
theorem eqf_proc {w : World} {B : Nat} {A1 A2 : Option Addr} {n1 n2 c1 c2 : Nat} {l1 l2 : List (Int × List Ins)} (h1 : SliceOf repProc w B A1 n1 c1 l1) (h2 : SliceOf repProc w B A2 n2 c2 l2) (hB : B ≤ w.heap.size) :
    Calls Try.prog 39 #[.slice A1 n1 c1, .slice A2 n2 c2, .func (.func 36) #[] #[]] w fun e w' => e = .returned (.bool (eqb (l1.map (·.1)) (l2.map (·.1)))) ∧ New w w' := by
  have e1 := h1.len
  have e2 := h2.len
  have b1 := h1.bound
  have b2 := h2.bound
  by_cases hn : n1 = n2
  · subst hn
    have T1 := Lib.hid (fun j (a : j < l1.length) (b : j < l2.length) (ht : (l1.map (·.1)).take j = (l2.map (·.1)).take j) (e : l1[j].1 = l2[j].1) => take_next (a := l1.map (·.1)) (b := l2.map (·.1)) (by simpa using a) (by simpa using b) ht (by simpa using e))
    have T2 := Lib.hid (fun j (a : j < l1.length) (b : j < l2.length) (e : ¬ l1[j].1 = l2[j].1) => show eqb (l1.map (·.1)) (l2.map (·.1)) = false from eqb_false fun h => e (by
      have := congrArg (fun l => l[j]?) h
      simpa [a, b] using this))
    have T3 := Lib.hid (fun (ht : (l1.map (·.1)).take n1 = (l2.map (·.1)).take n1) => show eqb (l1.map (·.1)) (l2.map (·.1)) = true from eqb_true (by rw [List.take_of_length_le (by simp; omega), List.take_of_length_le (by simp; omega)] at ht; exact ht))
    generalize eqb (l1.map (·.1)) (l2.map (·.1)) = res at *
    have R1 := Lib.hid (fun W (hW : New w W) => h1.kept hW hB fun _ _ h => h)
    have R2 := Lib.hid (fun W (hW : New w W) => h2.kept hW hB fun _ _ h => h)
    have E1 := Lib.hid e1
    have E2 := Lib.hid e2
    clear e1 e2
    clear h1 h2
    go_enter Try.func39, Try.ntmps39
    go_wp2_with fail
    go_loopw [17] (fun s wr => ∃ j : Nat, j ≤ n1 ∧ s = .int .i64 j ∧ New w wr ∧ Hid ((l1.map (·.1)).take j = (l2.map (·.1)).take j)) (fun s _ => (n1 - intOf s).toNat)
    case atStart => exact ⟨0, Nat.zero_le _, rfl, Kept.refl _ _, Lib.hid rfl⟩
    case round =>
      obtain ⟨j, hj, rfl, hnr, D⟩ := hrel
      by_cases hlt : j < n1
      · have a1 : j < l1.length := by have := E1.out; omega
        have a2 : j < l2.length := by have := E2.out; omega
        obtain ⟨g1, o1, rfl, k1, hc1⟩ := proc_at (R1.out wr hnr) (by omega)
        obtain ⟨g2, o2, rfl, k2, hc2⟩ := proc_at (R2.out wr hnr) (by omega)
        obtain ⟨P1, d1, ⟨x0, x1⟩, -, -⟩ := hc1 j a1
        obtain ⟨P2, d2, ⟨y0, y1⟩, -, -⟩ := hc2 j a2
        have D2 := Lib.hid (fun e => T1.out j a1 a2 D.out e)
        have D3 := Lib.hid (fun e => T2.out j a1 a2 e)
        have hlt' : (j : Int) < (n1 : Int) := by omega
        clear hc1 hc2
        generalize l1[j] = u at *
        generalize l2[j] = v at *
        obtain ⟨u1, u2⟩ := u
        obtain ⟨v1, v2⟩ := v
        simp only at x0 x1 y0 y1 D2 D3
        have HC := Lib.hid (fun W => part_same (a := u1) (b := v1) (v1 := .slice P1 u2.length d1) (v2 := .slice P2 v2.length d2) W)
        have hnn : New w ((wr.alloc (.cells #[.int .i64 u1, .slice P1 u2.length d1] 37)).alloc (.cells #[.int .i64 v1, .slice P2 v2.length d2] 37)) := (hnr.alloc _).alloc _
        have ka : New wr (wr.alloc (.cells #[.int .i64 u1, .slice P1 u2.length d1] 37)) := (Kept.refl _ _).alloc _
        have z0 := (ka.cell (p := ⟨g2, o2 + j * 2, none⟩) (lt_of_cell y0).1 id).trans y0
        have z1 := (ka.cell (p := ⟨g2, o2 + j * 2 + 1, none⟩) (lt_of_cell y1).1 id).trans y1
        have HNN := Lib.hid hnn
        clear hnn
        clear hnr a1 a2 ka
        by_cases he : u1 = v1
        · subst he
          have D4 := Lib.hid (D2.out rfl)
          rw [eqb_refl] at HC
          go_wp2_with (go_at_call 36; refine (HC.out _).mono ?_; rintro e w5 ⟨rfl, hn5⟩; have HN5 := Lib.hid hn5; clear hn5)
          go_roundw
          case rel => exact ⟨j + 1, by omega, by go_num, HNN.out.trans HN5.out, D4⟩
          case measure => simp [intOf]; omega
        · have E := Lib.hid (D3.out he)
          rw [eqb_false he] at HC
          clear he
          go_wp2_with (go_at_call 36; refine (HC.out _).mono ?_; rintro e w5 ⟨rfl, hn5⟩; have HN5 := Lib.hid hn5; clear hn5)
          go_ret
          rw [E.out]
          exact ⟨rfl, HNN.out.trans HN5.out⟩
      · obtain rfl : j = n1 := by omega
        have E := Lib.hid (T3.out D.out)
        have HNR := Lib.hid hnr
        clear hnr
        go_wp2_with fail
        go_ret
        rw [E.out]
        exact ⟨rfl, HNR.out⟩
  · have E := Lib.hid (show eqb (l1.map (·.1)) (l2.map (·.1)) = false from eqb_false fun h => hn (by have := congrArg List.length h; simp at this; omega))
    have hn2 : ((n1 : Int) != (n2 : Int)) = true := by simp; omega
    clear h1 h2 e1 e2 hn
    go_enter Try.func39, Try.ntmps39
    go_wp2_with fail
    go_ret
    rw [E.out]
    exact ⟨rfl, Kept.refl _ _⟩
set_option maxRecDepth 100000 in
set_option maxHeartbeats 2000000 in
theorem skeleton_any {w : World} {B : Nat} {c d : Cf} {Al At Ap Bl Bt Bp : Option Addr} {cl ct cp dl dt dp : Nat} (hl : SliceOf (Rep.int .u64) w B Al c.labels.length cl c.labels) (ht : SliceOf (Rep.int .i64) w B At c.table.length ct c.table) (hp : SliceOf repProc w B Ap c.procs.length cp c.procs)
    (gl : SliceOf (Rep.int .u64) w B Bl d.labels.length dl d.labels) (gt : SliceOf (Rep.int .i64) w B Bt d.table.length dt d.table) (gp : SliceOf repProc w B Bp d.procs.length dp d.procs) (hB : B ≤ w.heap.size) :
    Calls Try.prog 13 #[.agg (confC c Al cl At ct Ap cp).toArray, .agg (confC d Bl dl Bt dt Bp dp).toArray] w fun e w' => e = .returned (.bool (eqb (skel c) (skel d))) ∧ New w w' := by
  have k1 : New w (w.alloc (.cells #[.slice Al c.labels.length cl, .slice At c.table.length ct, .int .i64 c.fuel, .int .i64 c.lane, .int .i64 c.locks, .int .i64 c.log, .slice Ap c.procs.length cp] 26)) := (Kept.refl _ _).alloc _
  have k2 := k1.alloc (.cells #[.slice Bl d.labels.length dl, .slice Bt d.table.length dt, .int .i64 d.fuel, .int .i64 d.lane, .int .i64 d.locks, .int .i64 d.log, .slice Bp d.procs.length dp] 26)
  have b1 := (Blk.made w 26 (confC c Al cl At ct Ap cp).toArray).alloc (.cells #[.slice Bl d.labels.length dl, .slice Bt d.table.length dt, .int .i64 d.fuel, .int .i64 d.lane, .int .i64 d.locks, .int .i64 d.log, .slice Bp d.procs.length dp] 26)
  have b2 := Blk.made (w.alloc (.cells #[.slice Al c.labels.length cl, .slice At c.table.length ct, .int .i64 c.fuel, .int .i64 c.lane, .int .i64 c.locks, .int .i64 c.log, .slice Ap c.procs.length cp] 26)) 26 (confC d Bl dl Bt dt Bp dp).toArray
  rw [← size1] at b2
  have H1 := Lib.hid (fun W (hW : New w W) => eq_u64 (hl.kept hW hB fun _ _ h => h) (gl.kept hW hB fun _ _ h => h))
  have H2 := Lib.hid (fun W (hW : New w W) => eq_int (ht.kept hW hB fun _ _ h => h) (gt.kept hW hB fun _ _ h => h))
  have H3 := Lib.hid (fun W (hW : New w W) => eqf_proc (hp.kept hW hB fun _ _ h => h) (gp.kept hW hB fun _ _ h => h) (Nat.le_trans hB hW.size))
  have hs : ∀ {a b : List Int × List Int × Int × Int × Int × Int × List Int}, a ≠ b → eqb a b = false := fun h => eqb_false h
  unfold confC at b1 b2 ⊢
  clear hl ht hp gl gt gp
  have hmk : ∀ (fn : Fn) (first cap : Array Value) (w : World), (Instr.makeFunc fn first cap).run Try.prog w = .ok (.func fn first cap) w := fun _ _ _ _ => rfl
  by_cases g0 : c.labels = d.labels
  rotate_left
  · have E := Lib.hid (show eqb (skel c) (skel d) = false from eqb_false fun h => g0 (by unfold skel at h; simp only [Prod.mk.injEq] at h; exact h.1))
    have hh1 := H1.out
    rw [eqb_false g0] at hh1
    have x0 := b1.cell 0
    simp only [List.getElem?_toArray, List.getElem?_cons_zero] at x0
    have y0 := b2.cell 0
    simp only [List.getElem?_toArray, List.getElem?_cons_zero] at y0
    have HK2 := Lib.hid k2
    have HB1 := Lib.hid b1
    have HB2 := Lib.hid b2
    clear k1 k2 b1 b2 H1 H2 H3 hs g0
    have HH1 := Lib.hid hh1
    clear hh1
    go_enter Try.func13, Try.ntmps13
    go_wp2_with (first | (go_at_call 37; refine (HH1.out _ HK2.out).mono ?_; rintro e w3 ⟨rfl, hn3⟩; have HN3 := Lib.hid (HK2.out.trans hn3); clear hn3))
    go_ret
    rw [E.out]
    exact ⟨rfl, HN3.out⟩
  by_cases g1 : c.table = d.table
  rotate_left
  · have E := Lib.hid (show eqb (skel c) (skel d) = false from eqb_false fun h => g1 (by unfold skel at h; simp only [Prod.mk.injEq] at h; exact h.2.1))
    have hh1 := H1.out
    rw [eqb_true g0] at hh1
    have hh2 := H2.out
    rw [eqb_false g1] at hh2
    have x0 := b1.cell 0
    simp only [List.getElem?_toArray, List.getElem?_cons_zero] at x0
    have y0 := b2.cell 0
    simp only [List.getElem?_toArray, List.getElem?_cons_zero] at y0
    have HK2 := Lib.hid k2
    have HB1 := Lib.hid b1
    have HB2 := Lib.hid b2
    clear k1 k2 b1 b2 H1 H2 H3 hs g0 g1
    have HH1 := Lib.hid hh1
    clear hh1
    have HH2 := Lib.hid hh2
    clear hh2
    go_enter Try.func13, Try.ntmps13
    go_wp2_with (first | (go_at_call 37; refine (HH1.out _ HK2.out).mono ?_; rintro e w3 ⟨rfl, hn3⟩; have HN3 := Lib.hid (HK2.out.trans hn3); have hb1 := HB1.out.kept hn3 id; have hb2 := HB2.out.kept hn3 id; have x1 := hb1.cell 1; have y1 := hb2.cell 1; simp only [List.getElem?_toArray, List.getElem?_cons_zero, List.getElem?_cons_succ] at x1 y1; have HB1 := Lib.hid hb1; have HB2 := Lib.hid hb2; clear hb1 hb2; clear hn3) | (go_at_call 38; refine (HH2.out _ HN3.out).mono ?_; rintro e w4 ⟨rfl, hn4⟩; have HN4 := Lib.hid (HN3.out.trans hn4); clear hn4))
    go_ret
    rw [E.out]
    exact ⟨rfl, HN4.out⟩
  by_cases g2 : c.fuel = d.fuel
  rotate_left
  · have E := Lib.hid (show eqb (skel c) (skel d) = false from eqb_false fun h => g2 (by unfold skel at h; simp only [Prod.mk.injEq] at h; exact h.2.2.1))
    have hh1 := H1.out
    rw [eqb_true g0] at hh1
    have hh2 := H2.out
    rw [eqb_true g1] at hh2
    have q2 : (c.fuel == d.fuel) = false := by simpa using g2
    have x0 := b1.cell 0
    simp only [List.getElem?_toArray, List.getElem?_cons_zero] at x0
    have y0 := b2.cell 0
    simp only [List.getElem?_toArray, List.getElem?_cons_zero] at y0
    have HK2 := Lib.hid k2
    have HB1 := Lib.hid b1
    have HB2 := Lib.hid b2
    clear k1 k2 b1 b2 H1 H2 H3 hs g0 g1 g2
    have HH1 := Lib.hid hh1
    clear hh1
    have HH2 := Lib.hid hh2
    clear hh2
    go_enter Try.func13, Try.ntmps13
    go_wp2_with (first | (go_at_call 37; refine (HH1.out _ HK2.out).mono ?_; rintro e w3 ⟨rfl, hn3⟩; have HN3 := Lib.hid (HK2.out.trans hn3); have hb1 := HB1.out.kept hn3 id; have hb2 := HB2.out.kept hn3 id; have x1 := hb1.cell 1; have y1 := hb2.cell 1; simp only [List.getElem?_toArray, List.getElem?_cons_zero, List.getElem?_cons_succ] at x1 y1; have HB1 := Lib.hid hb1; have HB2 := Lib.hid hb2; clear hb1 hb2; clear hn3) | (go_at_call 38; refine (HH2.out _ HN3.out).mono ?_; rintro e w4 ⟨rfl, hn4⟩; have HN4 := Lib.hid (HN3.out.trans hn4); have hb1 := HB1.out.kept hn4 id; have hb2 := HB2.out.kept hn4 id; have x2 := hb1.cell 2; have y2 := hb2.cell 2; simp only [List.getElem?_toArray, List.getElem?_cons_zero, List.getElem?_cons_succ] at x2 y2; have HB1 := Lib.hid hb1; have HB2 := Lib.hid hb2; clear hb1 hb2; clear hn4))
    go_ret
    rw [E.out]
    exact ⟨rfl, HN4.out⟩
  by_cases g3 : c.lane = d.lane
  rotate_left
  · have E := Lib.hid (show eqb (skel c) (skel d) = false from eqb_false fun h => g3 (by unfold skel at h; simp only [Prod.mk.injEq] at h; exact h.2.2.2.1))
    have hh1 := H1.out
    rw [eqb_true g0] at hh1
    have hh2 := H2.out
    rw [eqb_true g1] at hh2
    have q2 : (c.fuel == d.fuel) = true := by simpa using g2
    have q3 : (c.lane == d.lane) = false := by simpa using g3
    have x0 := b1.cell 0
    simp only [List.getElem?_toArray, List.getElem?_cons_zero] at x0
    have y0 := b2.cell 0
    simp only [List.getElem?_toArray, List.getElem?_cons_zero] at y0
    have HK2 := Lib.hid k2
    have HB1 := Lib.hid b1
    have HB2 := Lib.hid b2
    clear k1 k2 b1 b2 H1 H2 H3 hs g0 g1 g2 g3
    have HH1 := Lib.hid hh1
    clear hh1
    have HH2 := Lib.hid hh2
    clear hh2
    go_enter Try.func13, Try.ntmps13
    go_wp2_with (first | (go_at_call 37; refine (HH1.out _ HK2.out).mono ?_; rintro e w3 ⟨rfl, hn3⟩; have HN3 := Lib.hid (HK2.out.trans hn3); have hb1 := HB1.out.kept hn3 id; have hb2 := HB2.out.kept hn3 id; have x1 := hb1.cell 1; have y1 := hb2.cell 1; simp only [List.getElem?_toArray, List.getElem?_cons_zero, List.getElem?_cons_succ] at x1 y1; have HB1 := Lib.hid hb1; have HB2 := Lib.hid hb2; clear hb1 hb2; clear hn3) | (go_at_call 38; refine (HH2.out _ HN3.out).mono ?_; rintro e w4 ⟨rfl, hn4⟩; have HN4 := Lib.hid (HN3.out.trans hn4); have hb1 := HB1.out.kept hn4 id; have hb2 := HB2.out.kept hn4 id; have x2 := hb1.cell 2; have y2 := hb2.cell 2; have x3 := hb1.cell 3; have y3 := hb2.cell 3; simp only [List.getElem?_toArray, List.getElem?_cons_zero, List.getElem?_cons_succ] at x2 y2 x3 y3; have HB1 := Lib.hid hb1; have HB2 := Lib.hid hb2; clear hb1 hb2; clear hn4))
    go_ret
    rw [E.out]
    exact ⟨rfl, HN4.out⟩
  by_cases g4 : c.locks = d.locks
  rotate_left
  · have E := Lib.hid (show eqb (skel c) (skel d) = false from eqb_false fun h => g4 (by unfold skel at h; simp only [Prod.mk.injEq] at h; exact h.2.2.2.2.1))
    have hh1 := H1.out
    rw [eqb_true g0] at hh1
    have hh2 := H2.out
    rw [eqb_true g1] at hh2
    have q2 : (c.fuel == d.fuel) = true := by simpa using g2
    have q3 : (c.lane == d.lane) = true := by simpa using g3
    have q4 : (c.locks == d.locks) = false := by simpa using g4
    have x0 := b1.cell 0
    simp only [List.getElem?_toArray, List.getElem?_cons_zero] at x0
    have y0 := b2.cell 0
    simp only [List.getElem?_toArray, List.getElem?_cons_zero] at y0
    have HK2 := Lib.hid k2
    have HB1 := Lib.hid b1
    have HB2 := Lib.hid b2
    clear k1 k2 b1 b2 H1 H2 H3 hs g0 g1 g2 g3 g4
    have HH1 := Lib.hid hh1
    clear hh1
    have HH2 := Lib.hid hh2
    clear hh2
    go_enter Try.func13, Try.ntmps13
    go_wp2_with (first | (go_at_call 37; refine (HH1.out _ HK2.out).mono ?_; rintro e w3 ⟨rfl, hn3⟩; have HN3 := Lib.hid (HK2.out.trans hn3); have hb1 := HB1.out.kept hn3 id; have hb2 := HB2.out.kept hn3 id; have x1 := hb1.cell 1; have y1 := hb2.cell 1; simp only [List.getElem?_toArray, List.getElem?_cons_zero, List.getElem?_cons_succ] at x1 y1; have HB1 := Lib.hid hb1; have HB2 := Lib.hid hb2; clear hb1 hb2; clear hn3) | (go_at_call 38; refine (HH2.out _ HN3.out).mono ?_; rintro e w4 ⟨rfl, hn4⟩; have HN4 := Lib.hid (HN3.out.trans hn4); have hb1 := HB1.out.kept hn4 id; have hb2 := HB2.out.kept hn4 id; have x2 := hb1.cell 2; have y2 := hb2.cell 2; have x3 := hb1.cell 3; have y3 := hb2.cell 3; have x4 := hb1.cell 4; have y4 := hb2.cell 4; simp only [List.getElem?_toArray, List.getElem?_cons_zero, List.getElem?_cons_succ] at x2 y2 x3 y3 x4 y4; have HB1 := Lib.hid hb1; have HB2 := Lib.hid hb2; clear hb1 hb2; clear hn4))
    go_ret
    rw [E.out]
    exact ⟨rfl, HN4.out⟩
  by_cases g5 : c.log = d.log
  rotate_left
  · have E := Lib.hid (show eqb (skel c) (skel d) = false from eqb_false fun h => g5 (by unfold skel at h; simp only [Prod.mk.injEq] at h; exact h.2.2.2.2.2.1))
    have hh1 := H1.out
    rw [eqb_true g0] at hh1
    have hh2 := H2.out
    rw [eqb_true g1] at hh2
    have q2 : (c.fuel == d.fuel) = true := by simpa using g2
    have q3 : (c.lane == d.lane) = true := by simpa using g3
    have q4 : (c.locks == d.locks) = true := by simpa using g4
    have q5 : (c.log == d.log) = false := by simpa using g5
    have x0 := b1.cell 0
    simp only [List.getElem?_toArray, List.getElem?_cons_zero] at x0
    have y0 := b2.cell 0
    simp only [List.getElem?_toArray, List.getElem?_cons_zero] at y0
    have HK2 := Lib.hid k2
    have HB1 := Lib.hid b1
    have HB2 := Lib.hid b2
    clear k1 k2 b1 b2 H1 H2 H3 hs g0 g1 g2 g3 g4 g5
    have HH1 := Lib.hid hh1
    clear hh1
    have HH2 := Lib.hid hh2
    clear hh2
    go_enter Try.func13, Try.ntmps13
    go_wp2_with (first | (go_at_call 37; refine (HH1.out _ HK2.out).mono ?_; rintro e w3 ⟨rfl, hn3⟩; have HN3 := Lib.hid (HK2.out.trans hn3); have hb1 := HB1.out.kept hn3 id; have hb2 := HB2.out.kept hn3 id; have x1 := hb1.cell 1; have y1 := hb2.cell 1; simp only [List.getElem?_toArray, List.getElem?_cons_zero, List.getElem?_cons_succ] at x1 y1; have HB1 := Lib.hid hb1; have HB2 := Lib.hid hb2; clear hb1 hb2; clear hn3) | (go_at_call 38; refine (HH2.out _ HN3.out).mono ?_; rintro e w4 ⟨rfl, hn4⟩; have HN4 := Lib.hid (HN3.out.trans hn4); have hb1 := HB1.out.kept hn4 id; have hb2 := HB2.out.kept hn4 id; have x2 := hb1.cell 2; have y2 := hb2.cell 2; have x3 := hb1.cell 3; have y3 := hb2.cell 3; have x4 := hb1.cell 4; have y4 := hb2.cell 4; have x5 := hb1.cell 5; have y5 := hb2.cell 5; simp only [List.getElem?_toArray, List.getElem?_cons_zero, List.getElem?_cons_succ] at x2 y2 x3 y3 x4 y4 x5 y5; have HB1 := Lib.hid hb1; have HB2 := Lib.hid hb2; clear hb1 hb2; clear hn4))
    go_ret
    rw [E.out]
    exact ⟨rfl, HN4.out⟩
  by_cases g6 : c.procs.map (·.1) = d.procs.map (·.1)
  rotate_left
  · have E := Lib.hid (show eqb (skel c) (skel d) = false from eqb_false fun h => g6 (by unfold skel at h; simp only [Prod.mk.injEq] at h; exact h.2.2.2.2.2.2))
    have hh1 := H1.out
    rw [eqb_true g0] at hh1
    have hh2 := H2.out
    rw [eqb_true g1] at hh2
    have hh3 := H3.out
    rw [eqb_false g6] at hh3
    have q2 : (c.fuel == d.fuel) = true := by simpa using g2
    have q3 : (c.lane == d.lane) = true := by simpa using g3
    have q4 : (c.locks == d.locks) = true := by simpa using g4
    have q5 : (c.log == d.log) = true := by simpa using g5
    have x0 := b1.cell 0
    simp only [List.getElem?_toArray, List.getElem?_cons_zero] at x0
    have y0 := b2.cell 0
    simp only [List.getElem?_toArray, List.getElem?_cons_zero] at y0
    have HK2 := Lib.hid k2
    have HB1 := Lib.hid b1
    have HB2 := Lib.hid b2
    clear k1 k2 b1 b2 H1 H2 H3 hs g0 g1 g2 g3 g4 g5 g6
    have HH1 := Lib.hid hh1
    clear hh1
    have HH2 := Lib.hid hh2
    clear hh2
    have HH3 := Lib.hid hh3
    clear hh3
    go_enter Try.func13, Try.ntmps13
    go_wp2_with (first | (go_at_call 37; refine (HH1.out _ HK2.out).mono ?_; rintro e w3 ⟨rfl, hn3⟩; have HN3 := Lib.hid (HK2.out.trans hn3); have hb1 := HB1.out.kept hn3 id; have hb2 := HB2.out.kept hn3 id; have x1 := hb1.cell 1; have y1 := hb2.cell 1; simp only [List.getElem?_toArray, List.getElem?_cons_zero, List.getElem?_cons_succ] at x1 y1; have HB1 := Lib.hid hb1; have HB2 := Lib.hid hb2; clear hb1 hb2; clear hn3) | (go_at_call 38; refine (HH2.out _ HN3.out).mono ?_; rintro e w4 ⟨rfl, hn4⟩; have HN4 := Lib.hid (HN3.out.trans hn4); have hb1 := HB1.out.kept hn4 id; have hb2 := HB2.out.kept hn4 id; have x2 := hb1.cell 2; have y2 := hb2.cell 2; have x3 := hb1.cell 3; have y3 := hb2.cell 3; have x4 := hb1.cell 4; have y4 := hb2.cell 4; have x5 := hb1.cell 5; have y5 := hb2.cell 5; have x6 := hb1.cell 6; have y6 := hb2.cell 6; simp only [List.getElem?_toArray, List.getElem?_cons_zero, List.getElem?_cons_succ] at x2 y2 x3 y3 x4 y4 x5 y5 x6 y6; have HB1 := Lib.hid hb1; have HB2 := Lib.hid hb2; clear hb1 hb2; clear hn4) | (go_at_call 39; refine (HH3.out _ HN4.out).mono ?_; rintro e w5 ⟨rfl, hn5⟩; have HN5 := Lib.hid (HN4.out.trans hn5); clear hn5))
    go_ret
    rw [E.out]
    exact ⟨rfl, HN5.out⟩
  have E := Lib.hid (show eqb (skel c) (skel d) = true from eqb_true (by unfold skel; rw [g0, g1, g2, g3, g4, g5, g6]))
  have hh1 := H1.out
  rw [eqb_true g0] at hh1
  have hh2 := H2.out
  rw [eqb_true g1] at hh2
  have hh3 := H3.out
  rw [eqb_true g6] at hh3
  have q2 : (c.fuel == d.fuel) = true := by simpa using g2
  have q3 : (c.lane == d.lane) = true := by simpa using g3
  have q4 : (c.locks == d.locks) = true := by simpa using g4
  have q5 : (c.log == d.log) = true := by simpa using g5
  have x0 := b1.cell 0
  simp only [List.getElem?_toArray, List.getElem?_cons_zero] at x0
  have y0 := b2.cell 0
  simp only [List.getElem?_toArray, List.getElem?_cons_zero] at y0
  have HK2 := Lib.hid k2
  have HB1 := Lib.hid b1
  have HB2 := Lib.hid b2
  clear k1 k2 b1 b2 H1 H2 H3 hs g0 g1 g2 g3 g4 g5 g6
  have HH1 := Lib.hid hh1
  clear hh1
  have HH2 := Lib.hid hh2
  clear hh2
  have HH3 := Lib.hid hh3
  clear hh3
  go_enter Try.func13, Try.ntmps13
  go_wp2_with (first | (go_at_call 37; refine (HH1.out _ HK2.out).mono ?_; rintro e w3 ⟨rfl, hn3⟩; have HN3 := Lib.hid (HK2.out.trans hn3); have hb1 := HB1.out.kept hn3 id; have hb2 := HB2.out.kept hn3 id; have x1 := hb1.cell 1; have y1 := hb2.cell 1; simp only [List.getElem?_toArray, List.getElem?_cons_zero, List.getElem?_cons_succ] at x1 y1; have HB1 := Lib.hid hb1; have HB2 := Lib.hid hb2; clear hb1 hb2; clear hn3) | (go_at_call 38; refine (HH2.out _ HN3.out).mono ?_; rintro e w4 ⟨rfl, hn4⟩; have HN4 := Lib.hid (HN3.out.trans hn4); have hb1 := HB1.out.kept hn4 id; have hb2 := HB2.out.kept hn4 id; have x2 := hb1.cell 2; have y2 := hb2.cell 2; have x3 := hb1.cell 3; have y3 := hb2.cell 3; have x4 := hb1.cell 4; have y4 := hb2.cell 4; have x5 := hb1.cell 5; have y5 := hb2.cell 5; have x6 := hb1.cell 6; have y6 := hb2.cell 6; simp only [List.getElem?_toArray, List.getElem?_cons_zero, List.getElem?_cons_succ] at x2 y2 x3 y3 x4 y4 x5 y5 x6 y6; have HB1 := Lib.hid hb1; have HB2 := Lib.hid hb2; clear hb1 hb2; clear hn4) | (go_at_call 39; refine (HH3.out _ HN4.out).mono ?_; rintro e w5 ⟨rfl, hn5⟩; have HN5 := Lib.hid (HN4.out.trans hn5); clear hn5))
  go_ret
  rw [E.out]
  exact ⟨rfl, HN5.out⟩
end Go.Proofs.Ytaefgljpdpigeaa.Conf
