/- The walks of the reference's Same (layer 18). -/
import Derived.Test.YtgdmajockejpgaaViewE
import Derived.Test.YtgdmajockejpgaaViewZ
import Derived.StillTailTactics
namespace Go.Proofs.Ytgdmajockejpgaa.View
open Go.RowKit Go.Fb
set_option linter.unusedVariables false
set_option maxHeartbeats 1000000 in
theorem rints_any {w : World} {B : Nat} {A1 A2 : Option Addr} {n1 n2 c1 c2 : Nat} {l1 l2 : List Int} (h1 : SliceOf (Rep.int .i64) w B A1 n1 c1 l1) (h2 : SliceOf (Rep.int .i64) w B A2 n2 c2 l2) (hB : B ≤ w.heap.size) :
    Calls Try.prog 25 #[.slice A1 n1 c1, .slice A2 n2 c2] w fun e w' => e = .returned (.bool (eqb l1 l2)) ∧ New w w' := by
  have e1 := h1.len
  have e2 := h2.len
  have b1 := h1.bound
  have b2 := h2.bound
  by_cases hn : n1 = n2
  · subst hn
    have R1 := Lib.hid (sl_here h1 hB)
    have R2 := Lib.hid (sl_here h2 hB)
    have T1 := Lib.hid (fun j (a : j < l1.length) (b : j < l2.length) (ht : l1.take j = l2.take j) (e : l1[j] = l2[j]) => take_next a b ht e)
    have T2 := Lib.hid (fun j (a : j < l1.length) (b : j < l2.length) (e : ¬ l1[j] = l2[j]) => show eqb l1 l2 = false from eqb_false fun h => e (by subst h; rfl))
    have T3 := Lib.hid (fun (ht : l1.take n1 = l2.take n1) => show eqb l1 l2 = true from eqb_true (by rw [List.take_of_length_le (by omega), List.take_of_length_le (by omega)] at ht; exact ht))
    generalize eqb l1 l2 = res at *
    have H1 := Lib.hid h1
    have H2 := Lib.hid h2
    have E1 := Lib.hid e1
    have E2 := Lib.hid e2
    have HB := Lib.hid hB
    clear h1 h2 e1 e2 hB
    go_enter Try.func25, Try.ntmps25
    go_wp2_with fail
    go_loopw [5] (fun s wr => ∃ j : Nat, j ≤ n1 ∧ s = .int .i64 j ∧ New w wr ∧ Hid (l1.take j = l2.take j)) (fun s _ => (n1 - intOf s).toNat)
    case atStart => exact ⟨0, Nat.zero_le _, rfl, Kept.refl _ _, Lib.hid rfl⟩
    case round =>
      obtain ⟨j, hj, rfl, hnr, D⟩ := hrel
      by_cases hlt : j < n1
      · have a1 : j < l1.length := by have := E1.out; omega
        have a2 : j < l2.length := by have := E2.out; omega
        obtain ⟨g1, o1, cs1, rfl, s1, hc1⟩ := R1.out j a1
        obtain ⟨g2, o2, cs2, rfl, s2, hc2⟩ := R2.out j a2
        have k1 := (hc1 wr hnr).2.1
        have k2 := (hc2 wr hnr).2.1
        subst k1; subst k2
        have zx := (hc1 wr hnr).1 0 (by decide)
        have zy := (hc2 wr hnr).1 0 (by decide)
        simp only [Rep.int, Nat.add_zero, Nat.mul_one, List.getElem?_cons_zero] at zx zy
        have D2 := Lib.hid (fun e => T1.out j a1 a2 D.out e)
        have D3 := Lib.hid (fun e => T2.out j a1 a2 e)
        generalize l1[j] = u at *
        generalize l2[j] = v at *
        have f2 : (0 : Int) ≤ (j : Int) := by omega
        have f3 : (j : Int) < (n1 : Int) := by omega
        have HNR := Lib.hid hnr
        have A1 := Lib.hid a1
        have A2 := Lib.hid a2
        clear hnr a1 a2
        clear hc1 hc2
        by_cases he : u = v
        · subst he
          have D4 := Lib.hid (D2.out rfl)
          go_wp2_with fail
          go_big_quiet (fail)
          go_wp2_with fail
          go_roundw
          case rel => exact ⟨j + 1, by omega, by go_num, Kept.drewN HNR.out _, D4⟩
          case measure => simp [intOf]; omega
        · have E := Lib.hid (D3.out he)
          have ne : (u != v) = true := by simpa using he
          clear he
          go_wp2_with fail
          go_big_quiet (fail)
          go_wp2_with fail
          go_ret
          exact ⟨by rw [E.out]; rfl, Kept.drewN HNR.out _⟩
      · obtain rfl : n1 = j := by omega
        have E := Lib.hid (T3.out D.out)
        have HNR := Lib.hid hnr
        clear hnr
        clear D
        go_wp2_with fail
        go_ret
        exact ⟨by rw [E.out]; rfl, HNR.out⟩
  · have E := Lib.hid (show eqb l1 l2 = false from eqb_false fun h => hn (by rw [e1, e2, h]))
    have hn' : (n1 != n2) = true := by simpa using hn
    have hn2 : ((n1 : Int) != (n2 : Int)) = true := by simp; omega
    clear h1 h2 e1 e2 hn
    go_enter Try.func25, Try.ntmps25
    go_wp2_with fail
    go_ret
    exact ⟨by rw [E.out]; rfl, Kept.refl _ _⟩
theorem rsame_ints {w : World} {B : Nat} {x y : List Int} {a b : Value} (h1 : (Rep.int .i64).slice.cells w B x [a]) (h2 : (Rep.int .i64).slice.cells w B y [b]) (hB : B ≤ w.heap.size) : Calls Try.prog 25 #[a, b] w fun e w' => e = .returned (.bool (eqb x y)) ∧ New w w' := by
  obtain ⟨A1, n1, c1, h1, s1⟩ := h1
  obtain ⟨A2, n2, c2, h2, s2⟩ := h2
  injection h1 with h1
  injection h2 with h2
  subst h1; subst h2
  exact rints_any s1 s2 hB
set_option maxHeartbeats 4000000 in
set_option maxRecDepth 100000 in
theorem rsame_lane {w : World} {B : Nat} {x y : Lane} {a0 a1 a2 a3 b0 b1 b2 b3 : Value} (h1 : repLane.cells w B x [a0, a1, a2, a3]) (h2 : repLane.cells w B y [b0, b1, b2, b3]) (hB : B ≤ w.heap.size) :
    Calls Try.prog 26 #[.agg #[a0, a1, a2, a3], .agg #[b0, b1, b2, b3]] w fun e w' => e = .returned (.bool (eqb x y)) ∧ New w w' := by
  obtain ⟨p0, p1, p2, p3, p4, p5, h1, s1x, s2x, -⟩ := h1
  obtain ⟨q0, q1, q2, q3, q4, q5, h2, s1y, s2y, -⟩ := h2
  simp only [List.cons.injEq, and_true] at h1 h2
  obtain ⟨rfl, rfl, rfl, rfl⟩ := h1
  obtain ⟨rfl, rfl, rfl, rfl⟩ := h2
  have HE : Hid (x.taken = y.taken → x.dropped = y.dropped → x.values = y.values → x.waiters = y.waiters → eqb x y = true) := Lib.hid fun _ _ _ _ => eqb_true (by cases x; cases y; simp_all)
  have Ntaken := Lib.hid (fun (h : ¬ x.taken = y.taken) => show eqb x y = false from eqb_false fun e => h (by rw [e]))
  have Ndropped := Lib.hid (fun (h : ¬ x.dropped = y.dropped) => show eqb x y = false from eqb_false fun e => h (by rw [e]))
  have Nvalues := Lib.hid (fun (h : ¬ x.values = y.values) => show eqb x y = false from eqb_false fun e => h (by rw [e]))
  have Nwaiters := Lib.hid (fun (h : ¬ x.waiters = y.waiters) => show eqb x y = false from eqb_false fun e => h (by rw [e]))
  have lx0 := s1x.len
  have ly0 := s1y.len
  have kx0 := s1x.bound
  have ky0 := s1y.bound
  have RX0 := Lib.hid (sl_here s1x hB)
  have RY0 := Lib.hid (sl_here s1y hB)
  have lx1 := s2x.len
  have ly1 := s2y.len
  have kx1 := s2x.bound
  have ky1 := s2y.bound
  have RX1 := Lib.hid (sl_here s2x hB)
  have RY1 := Lib.hid (sl_here s2y hB)
  have b1 : Blk ((w.alloc (.cells #[.slice p0 p1 p2, .slice p3 p4 p5, .int .i64 x.taken, .int .i64 x.dropped] 53)).alloc (.cells #[.slice q0 q1 q2, .slice q3 q4 q5, .int .i64 y.taken, .int .i64 y.dropped] 53)) w.heap.size 53 #[.slice p0 p1 p2, .slice p3 p4 p5, .int .i64 x.taken, .int .i64 x.dropped] := (Blk.made _ _ _).alloc _
  have b2 : Blk ((w.alloc (.cells #[.slice p0 p1 p2, .slice p3 p4 p5, .int .i64 x.taken, .int .i64 x.dropped] 53)).alloc (.cells #[.slice q0 q1 q2, .slice q3 q4 q5, .int .i64 y.taken, .int .i64 y.dropped] 53)) (w.heap.size + 1) 53 #[.slice q0 q1 q2, .slice q3 q4 q5, .int .i64 y.taken, .int .i64 y.dropped] := Blk.made_at _ _ _ _ (by simp)
  have hn : New w ((w.alloc (.cells #[.slice p0 p1 p2, .slice p3 p4 p5, .int .i64 x.taken, .int .i64 x.dropped] 53)).alloc (.cells #[.slice q0 q1 q2, .slice q3 q4 q5, .int .i64 y.taken, .int .i64 y.dropped] 53)) := ((Kept.refl _ _).alloc _).alloc _
  clear s1x s1y s2x s2y
  generalize eqb x y = res at *
  generalize x.taken = xtaken at *
  generalize y.taken = ytaken at *
  generalize x.dropped = xdropped at *
  generalize y.dropped = ydropped at *
  generalize x.values = xvalues at *
  generalize y.values = yvalues at *
  generalize x.waiters = xwaiters at *
  generalize y.waiters = ywaiters at *
  have B1 := Lib.hid b1
  have B2 := Lib.hid b2
  have HN := Lib.hid hn
  have LX0 := Lib.hid lx0
  have LY0 := Lib.hid ly0
  have LX1 := Lib.hid lx1
  have LY1 := Lib.hid ly1
  have HBB := Lib.hid hB
  clear b1 b2 hn lx0 ly0 lx1 ly1 hB
  go_enter Try.func26, Try.ntmps26
  go_upto_region 1 with (fail)
  generalize ((w.alloc (.cells #[.slice p0 p1 p2, .slice p3 p4 p5, .int .i64 xtaken, .int .i64 xdropped] 53)).alloc (.cells #[.slice q0 q1 q2, .slice q3 q4 q5, .int .i64 ytaken, .int .i64 ydropped] 53)) = w2 at *
  generalize hg1 : w.heap.size = g1 at *
  have HGE := Lib.hid hg1
  clear hg1
  have hb1 := B1.out.kept (Kept.refl (fun _ => False) w2) id
  have hb2 := B2.out.kept (Kept.refl (fun _ => False) w2) id
  have u0 := hb1.cell 0
  have v0 := hb2.cell 0
  have u1 := hb1.cell 1
  have v1 := hb2.cell 1
  have u2 := hb1.cell 2
  have v2 := hb2.cell 2
  have u3 := hb1.cell 3
  have v3 := hb2.cell 3
  simp only [List.getElem?_toArray, List.getElem?_cons_zero, List.getElem?_cons_succ] at u0 v0 u1 v1 u2 v2 u3 v3
  clear hb1 hb2
  by_cases eL0 : p1 = q1
  · subst eL0
    by_cases eL1 : p4 = q4
    · subst eL1
      by_cases etaken : xtaken = ytaken
      · subst etaken
        by_cases edropped : xdropped = ydropped
        · subst edropped
          go_wp2_with fail
          have HB0 := Lib.hid (Kept.refl (fun _ => False) w2)
          go_loopw [5] (fun t wr => ∃ j : Nat, j ≤ p1 ∧ t = .int .i64 j ∧ New w2 wr ∧ Hid (xvalues.take j = yvalues.take j)) (fun t _ => (p1 - intOf t).toNat)
          case atStart => exact ⟨0, Nat.zero_le _, rfl, HB0.out, Lib.hid rfl⟩
          case round =>
            obtain ⟨j, hj, rfl, hnr, D⟩ := hrel
            have hb1 := B1.out.kept hnr id
            have hb2 := B2.out.kept hnr id
            have u0 := hb1.cell 0
            have v0 := hb2.cell 0
            have u1 := hb1.cell 1
            have v1 := hb2.cell 1
            have u2 := hb1.cell 2
            have v2 := hb2.cell 2
            have u3 := hb1.cell 3
            have v3 := hb2.cell 3
            simp only [List.getElem?_toArray, List.getElem?_cons_zero, List.getElem?_cons_succ] at u0 v0 u1 v1 u2 v2 u3 v3
            clear hb1 hb2
            by_cases hlt : j < p1
            · have i1 : j < xvalues.length := by have := LX0.out; omega
              have i2 : j < yvalues.length := by have := LY0.out; omega
              obtain ⟨gx, ox, cx, rfl, -, hcx⟩ := RX0.out j i1
              obtain ⟨gy, oy, cy, rfl, -, hcy⟩ := RY0.out j i2
              have hnw := HN.out.trans hnr
              have TN := Lib.hid fun e => take_next i1 i2 D.out e
              have TF : Hid (¬ xvalues[j] = yvalues[j] → res = false) := Lib.hid fun e => Nvalues.out fun h => e (by subst h; rfl)
              have f2 : (0 : Int) ≤ (j : Int) := by omega
              have f3 : (j : Int) < (p1 : Int) := by omega
              have cx2 := (hcx wr hnw).1
              have x3 := (hcx wr hnw).2.1
              subst x3
              change ∀ j', j' < 1 → wr.cell? ⟨gx, ox + j * 1 + j', none⟩ = _ at cx2
              have zx0 := cx2 0 (by decide)
              clear cx2
              have cy2 := (hcy wr hnw).1
              have y3 := (hcy wr hnw).2.1
              subst y3
              change ∀ j', j' < 1 → wr.cell? ⟨gy, oy + j * 1 + j', none⟩ = _ at cy2
              have zy0 := cy2 0 (by decide)
              clear cy2
              simp only [Nat.add_zero, Nat.mul_one, List.getElem?_cons_zero, List.getElem?_cons_succ] at zx0 zy0
              clear hcx hcy hnw
              generalize xvalues[j] = ex at *
              generalize yvalues[j] = ey at *
              by_cases he : ex = ey
              · subst he
                have D2 := Lib.hid (TN.out rfl)
                have HNR := Lib.hid hnr
                clear hnr i1 i2
                go_wp2_with fail
                go_big_quiet (fail)
                go_wp2_with fail
                go_roundw
                case rel => exact ⟨j + 1, by omega, by go_num, Kept.drewN HNR.out _, D2⟩
                case measure => simp [intOf]; omega
              · have E := Lib.hid (TF.out he)
                have ne : (ex != ey) = true := by simpa using he
                have hend := HN.out.trans hnr
                have HEND := Lib.hid hend
                clear hend
                clear hnr he i1 i2
                go_wp2_with fail
                go_big_quiet (fail)
                go_wp2_with fail
                go_ret
                exact ⟨by rw [E.out]; rfl, Kept.drewN HEND.out _⟩
            · obtain rfl : p1 = j := by omega
              have G0 : Hid (xvalues = yvalues) := Lib.hid (by
                have h1 := D.out
                rwa [List.take_of_length_le (by have := LX0.out; omega), List.take_of_length_le (by have := LY0.out; omega)] at h1)
              have HW0 := Lib.hid hnr
              clear hnr D
              go_wp2_with fail
              have HB1 := Lib.hid HW0.out
              go_loopw [6] (fun t wr => ∃ j : Nat, j ≤ p4 ∧ t = .int .i64 j ∧ New w2 wr ∧ Hid (xwaiters.take j = ywaiters.take j)) (fun t _ => (p4 - intOf t).toNat)
              case atStart => exact ⟨0, Nat.zero_le _, rfl, HB1.out, Lib.hid rfl⟩
              case round =>
                obtain ⟨j, hj, rfl, hnr, D⟩ := hrel
                have hb1 := B1.out.kept hnr id
                have hb2 := B2.out.kept hnr id
                have u0 := hb1.cell 0
                have v0 := hb2.cell 0
                have u1 := hb1.cell 1
                have v1 := hb2.cell 1
                have u2 := hb1.cell 2
                have v2 := hb2.cell 2
                have u3 := hb1.cell 3
                have v3 := hb2.cell 3
                simp only [List.getElem?_toArray, List.getElem?_cons_zero, List.getElem?_cons_succ] at u0 v0 u1 v1 u2 v2 u3 v3
                clear hb1 hb2
                by_cases hlt : j < p4
                · have i1 : j < xwaiters.length := by have := LX1.out; omega
                  have i2 : j < ywaiters.length := by have := LY1.out; omega
                  obtain ⟨gx, ox, cx, rfl, -, hcx⟩ := RX1.out j i1
                  obtain ⟨gy, oy, cy, rfl, -, hcy⟩ := RY1.out j i2
                  have hnw := HN.out.trans hnr
                  have TN := Lib.hid fun e => take_next i1 i2 D.out e
                  have TF : Hid (¬ xwaiters[j] = ywaiters[j] → res = false) := Lib.hid fun e => Nwaiters.out fun h => e (by subst h; rfl)
                  have f2 : (0 : Int) ≤ (j : Int) := by omega
                  have f3 : (j : Int) < (p4 : Int) := by omega
                  have cx2 := (hcx wr hnw).1
                  have x3 := (hcx wr hnw).2.1
                  subst x3
                  change ∀ j', j' < 2 → wr.cell? ⟨gx, ox + j * 2 + j', none⟩ = _ at cx2
                  have zx0 := cx2 0 (by decide)
                  have zx1 := cx2 1 (by decide)
                  clear cx2
                  have cy2 := (hcy wr hnw).1
                  have y3 := (hcy wr hnw).2.1
                  subst y3
                  change ∀ j', j' < 2 → wr.cell? ⟨gy, oy + j * 2 + j', none⟩ = _ at cy2
                  have zy0 := cy2 0 (by decide)
                  have zy1 := cy2 1 (by decide)
                  clear cy2
                  simp only [Nat.add_zero, Nat.mul_one, List.getElem?_cons_zero, List.getElem?_cons_succ] at zx0 zy0 zx1 zy1
                  clear hcx hcy hnw
                  generalize xwaiters[j] = ex at *
                  generalize ywaiters[j] = ey at *
                  by_cases he : ex = ey
                  · subst he
                    have D2 := Lib.hid (TN.out rfl)
                    have HNR := Lib.hid hnr
                    have hq : ∀ W, (Op.equalIn 10000 _ _ _).run _ W = .ok true W := fun W => (eq2 ex.proc ex.value ex.proc ex.value W).trans (by simp)
                    clear hnr i1 i2
                    go_wp2_with fail
                    go_big_quiet (fail)
                    go_wp2_with fail
                    go_roundw
                    case rel => exact ⟨j + 1, by omega, by go_num, Kept.drewN HNR.out _, D2⟩
                    case measure => simp [intOf]; omega
                  · have E := Lib.hid (TF.out he)
                    have hq : ∀ W, (Op.equalIn 10000 _ _ _).run _ W = .ok false W := fun W => (eq2 ex.proc ex.value ey.proc ey.value W).trans (by
                      congr 1; cases ex; cases ey; simp_all)
                    have hend := HN.out.trans hnr
                    have HEND := Lib.hid hend
                    clear hend
                    clear hnr he i1 i2
                    go_wp2_with fail
                    go_big_quiet (fail)
                    go_wp2_with fail
                    go_ret
                    exact ⟨by rw [E.out]; rfl, Kept.drewN HEND.out _⟩
                · obtain rfl : p4 = j := by omega
                  have G1 : Hid (xwaiters = ywaiters) := Lib.hid (by
                    have h1 := D.out
                    rwa [List.take_of_length_le (by have := LX1.out; omega), List.take_of_length_le (by have := LY1.out; omega)] at h1)
                  have HW1 := Lib.hid hnr
                  clear hnr D
                  skip
                  have E := Lib.hid (HE.out (by first | rfl | trivial) (by first | rfl | trivial) G0.out G1.out)
                  have hend := HN.out.trans HW1.out
                  have HEND := Lib.hid hend
                  clear hend
                  go_wp2_with fail
                  go_ret
                  exact ⟨by rw [E.out]; rfl, HEND.out⟩
        · have E := Lib.hid (Ndropped.out edropped)
          have ne : (xdropped != ydropped) = true := by simpa using edropped
          clear edropped
          go_wp2_with fail
          all_goals
            go_ret
            exact ⟨by rw [E.out]; rfl, HN.out⟩
      · have E := Lib.hid (Ntaken.out etaken)
        have ne : (xtaken != ytaken) = true := by simpa using etaken
        clear etaken
        go_wp2_with fail
        all_goals
          go_ret
          exact ⟨by rw [E.out]; rfl, HN.out⟩
    · have E := Lib.hid (Nwaiters.out fun h => eL1 (by rw [LX1.out, LY1.out, h]))
      have ne1 : (p4 != q4) = true := by simpa using eL1
      have ne2 : ((p4 : Int) != (q4 : Int)) = true := by simp; omega
      clear eL1
      go_wp2_with fail
      all_goals
        go_ret
        exact ⟨by rw [E.out]; rfl, HN.out⟩
  · have E := Lib.hid (Nvalues.out fun h => eL0 (by rw [LX0.out, LY0.out, h]))
    have ne1 : (p1 != q1) = true := by simpa using eL0
    have ne2 : ((p1 : Int) != (q1 : Int)) = true := by simp; omega
    clear eL0
    go_wp2_with fail
    all_goals
      go_ret
      exact ⟨by rw [E.out]; rfl, HN.out⟩
end Go.Proofs.Ytgdmajockejpgaa.View
