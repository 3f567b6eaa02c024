/- The walk of the law's few (layer 18). -/
import Derived.Test.YtgdmajockejpgaaViewU
namespace Go.Proofs.Ytgdmajockejpgaa.View
open Go.RowKit Go.Fb
set_option linter.unusedVariables false
def PartOk (x : Part) : Prop := x.log.length ≤ 1048576 ∧ x.owners.length ≤ 1048576 ∧ x.queues.length ≤ 1048576 ∧ ∀ q ∈ x.queues, q.length ≤ 1048576
def LaneOk (l : Lane) : Prop := l.values.length ≤ 1048576 ∧ l.waiters.length ≤ 1048576
def ProcOk (x : Process) : Prop := x.lanes.length ≤ 1048576 ∧ ∀ l ∈ x.lanes, LaneOk l
def FewR (w : World) (s : State) (e : Ending) (w' : World) : Prop := New w w' ∧ ∃ b, e = .returned (.bool b) ∧ (b = true → Few s)
set_option maxHeartbeats 8000000 in
theorem few_any {w : World} {B : Nat} {s : State} {s0 s1 s2 : Value} (hs : repState.cells w B s [s0, s1, s2]) (hB : B ≤ w.heap.size) (hz : SmallS s) : Calls Try.prog 7 #[.agg #[s0, s1, s2]] w (FewR w s) := by
  obtain ⟨Aa, na, ca, Ab, nb, cb, e, ha, hb⟩ := hs
  simp only [List.cons.injEq, and_true] at e
  obtain ⟨rfl, rfl, rfl⟩ := e
  have hna := ha.len
  have hnb := hb.len
  have ka := ha.bound
  have kb := hb.bound
  have RA := Lib.hid (sl_here ha hB)
  have RB := Lib.hid (sl_here hb hB)
  have b1 : Blk (w.alloc (.cells #[.int .i64 s.tick, .slice Aa na ca, .slice Ab nb cb] 30)) w.heap.size 30 #[.int .i64 s.tick, .slice Aa na ca, .slice Ab nb cb] := Blk.made _ _ _
  have hn : New w (w.alloc (.cells #[.int .i64 s.tick, .slice Aa na ca, .slice Ab nb cb] 30)) := (Kept.refl _ _).alloc _
  clear ha hb
  have B1 := Lib.hid b1
  have HN := Lib.hid hn
  have HNA := Lib.hid hna
  have HNB := Lib.hid hnb
  have HZ := Lib.hid hz
  clear b1 hn hna hnb hz
  go_enter Try.func7, Try.ntmps7
  go_upto_region 1 with (fail)
  generalize w.alloc (.cells #[.int .i64 s.tick, .slice Aa na ca, .slice Ab nb cb] 30) = w1 at *
  have HBW : Hid (w.heap.size ≤ w.heap.size) := Lib.hid (Nat.le_refl _)
  generalize hbw : w.heap.size = b at *
  have hB' : B ≤ w.heap.size := by rw [hbw]; exact hB
  have HBE : Hid (w.heap.size = b) := Lib.hid hbw
  have HST : Hid (∀ W, New w1 W → W.cell? ⟨b, 1, none⟩ = some (.slice Aa na ca) ∧ W.cell? ⟨b, 2, none⟩ = some (.slice Ab nb cb)) := Lib.hid fun W hW => ⟨(B1.out.kept hW id).cell 1, (B1.out.kept hW id).cell 2⟩
  clear hbw HBW
  go_wp2_with fail
  go_loopw [3, 4] (fun l i wr => ∃ (j : Nat) (lf : Int), j ≤ na ∧ i = .int .i64 j ∧ l = .int .i64 lf ∧ lf ≤ 1048576 - j ∧ -140737488355328 ≤ lf ∧ New w1 wr ∧ Hid (0 ≤ lf → ∀ k (h : k < s.parts.length), k < j → PartOk s.parts[k])) (fun l i _ => (na - intOf i).toNat)
  case atStart => exact ⟨0, 1048576, Nat.zero_le _, rfl, rfl, by omega, by omega, Kept.refl _ _, Lib.hid fun _ k h hk => absurd hk (Nat.not_lt_zero _)⟩
  case round =>
    obtain ⟨j, lf, hj, rfl, rfl, hlf, hlf2, hnr, D⟩ := hrel
    obtain ⟨z1, z2⟩ := HST.out _ hnr
    by_cases hlt : j < na
    · by_cases h0 : 0 ≤ lf
      · have hiL : j < s.parts.length := by have := HNA.out; omega
        obtain ⟨g, o, cs, rfl, hcl, hc⟩ := RA.out j hiL
        have hnw := HN.out.trans hnr
        have hcl2 := (hc wr hnw).2
        obtain ⟨p0, p1, p2, p3, p4, p5, p6, p7, p8, rfl, q1, q2, q3⟩ := hcl2
        have hcx := (hc wr hnw).1
        change ∀ j', j' < 6 → wr.cell? ⟨g, o + j * 6 + j', none⟩ = _ at hcx
        have x0 := hcx 0 (by decide)
        have x1 := hcx 1 (by decide)
        have x2 := hcx 2 (by decide)
        have x3 := hcx 3 (by decide)
        have x4 := hcx 4 (by decide)
        have x5 := hcx 5 (by decide)
        simp only [Nat.add_zero, List.getElem?_cons_zero, List.getElem?_cons_succ] at x0 x1 x2 x3 x4 x5
        have hsm := HZ.out.1 _ (List.getElem_mem hiL)
        obtain ⟨s1, s2, s3, s4⟩ := hsm
        rw [← q1.len] at s1
        rw [← q2.len] at s2
        rw [← q3.len] at s3
        have k1 := q1.bound
        have k2 := q2.bound
        have k3 := q3.bound
        have RQ := Lib.hid (sl_here q3 (Nat.le_trans hB' hnw.size))
        have hql := q3.len
        have HPOK : Hid (p1 ≤ 1048576 → p4 ≤ 1048576 → p7 ≤ 1048576 → (∀ k (h : k < s.parts[j].queues.length), s.parts[j].queues[k].length ≤ 1048576) → PartOk s.parts[j]) := Lib.hid fun a1 a2 a3 a4 => ⟨by have := q1.len; omega, by have := q2.len; omega, by have := q3.len; omega, fun q hq => by
          obtain ⟨k, hk, rfl⟩ := List.mem_iff_getElem.1 hq
          exact a4 k hk⟩
        have HQS : Hid (∀ k (h : k < s.parts[j].queues.length), s.parts[j].queues[k].length ≤ 17592186044416) := Lib.hid fun k h => s4 _ (List.getElem_mem h)
        have HD2 : Hid (PartOk s.parts[j] → ∀ k (h : k < s.parts.length), k < j + 1 → PartOk s.parts[k]) := Lib.hid fun h k hk hk' => by
          by_cases e : k = j
          · subst e; exact h
          · exact D.out h0 k hk (by omega)
        have hal : New wr (wr.alloc (.cells #[.int .i64 s.parts[j].cursor, .slice p0 p1 p2, .int .i64 s.parts[j].lost, .int .i64 s.parts[j].forbidden, .slice p3 p4 p5, .slice p6 p7 p8] 43)) := (Kept.refl _ _).alloc _
        have hbx := Blk.made wr 43 #[.int .i64 s.parts[j].cursor, .slice p0 p1 p2, .int .i64 s.parts[j].lost, .int .i64 s.parts[j].forbidden, .slice p3 p4 p5, .slice p6 p7 p8]
        generalize s.parts[j] = x at *
        have e2 : (0 : Int) ≤ (j : Int) := by omega
        have e3 : (j : Int) < (na : Int) := by omega
        have e4 : decide (j < na) = true := decide_eq_true hlt
        have HNR := Lib.hid hnr
        have HAL := Lib.hid hal
        have HBX := Lib.hid hbx
        have HQL := Lib.hid hql
        clear hnr hal hbx hql
        clear hc hcl hcx q1 q2 q3 s4 D hnw
        go_upto_region 6 with (fail)
        generalize wr.alloc (.cells #[.int .i64 x.cursor, .slice p0 p1 p2, .int .i64 x.lost, .int .i64 x.forbidden, .slice p3 p4 p5, .slice p6 p7 p8] 43) = w2 at *
        have HX5 : Hid (∀ W, New w2 W → W.cell? ⟨wr.heap.size, 5, none⟩ = some (.slice p6 p7 p8)) := Lib.hid fun W hW => (HBX.out.kept hW id).cell 5
        have hbxc := HBX.out
        have z1 := hbxc.cell 1
        have z4 := hbxc.cell 4
        have z5 := hbxc.cell 5
        simp only [List.getElem?_toArray, List.getElem?_cons_zero, List.getElem?_cons_succ] at z1 z4 z5
        generalize wr.heap.size = bx at *
        clear hbxc x0 x1 x2 x3 x4 x5
        obtain ⟨lf1, hlf1⟩ : ∃ lf1, lf1 = lf - (1 + (p1 : Int) + (p4 : Int) + (p7 : Int)) := ⟨_, rfl⟩
        have HLF1 := Lib.hid hlf1
        clear hlf1
        go_wp2_with fail
        rw [← HLF1.out]
        go_loopw [3, 6] (fun l k wr' => ∃ (m : Nat) (lm : Int), m ≤ p7 ∧ k = .int .i64 m ∧ l = .int .i64 lm ∧ lm ≤ lf1 ∧ -140737488355328 ≤ lm ∧ New w2 wr' ∧ Hid (0 ≤ lm → ∀ n (h : n < x.queues.length), n < m → x.queues[n].length ≤ 1048576)) (fun l k _ => (p7 - intOf k).toNat)
        case atStart => exact ⟨0, lf1, Nat.zero_le _, rfl, rfl, by omega, by have := HLF1.out; omega, Kept.refl _ _, Lib.hid fun _ n h hn => absurd hn (Nat.not_lt_zero _)⟩
        case round =>
          obtain ⟨m, lm, hm, rfl, rfl, hlm, hlm2, hnr2, D2⟩ := hrel
          have z5 := HX5.out _ hnr2
          have hnw2 : New w wr := HN.out.trans (HNR.out.trans (HAL.out.trans hnr2))
          have hdone : (m = p7 ∨ lm < 0) → (∃ (j' : Nat) (lf' : Int), j' ≤ na ∧ Value.int .i64 ((j : Int) + 1) = .int .i64 j' ∧ Value.int .i64 lm = .int .i64 lf' ∧ lf' ≤ 1048576 - j' ∧ -140737488355328 ≤ lf' ∧ New w1 wr ∧ Hid (0 ≤ lf' → ∀ k (h : k < s.parts.length), k < j' → PartOk s.parts[k])) := fun hd => by
            have h1 := HLF1.out
            refine ⟨j + 1, lm, by omega, by go_num, rfl, by omega, by omega, HNR.out.trans (HAL.out.trans hnr2), Lib.hid fun h => HD2.out (HPOK.out (by omega) (by omega) (by omega) fun k hk => ?_)⟩
            refine D2.out h k hk ?_
            have := HQL.out
            omega
          by_cases hlt2 : m < p7
          · by_cases h02 : 0 ≤ lm
            · have hqL : m < x.queues.length := by have := HQL.out; omega
              obtain ⟨gq, oq, cq, rfl, -, hcq⟩ := RQ.out m hqL
              obtain ⟨Aq', nq', cq', rfl, q4⟩ := (hcq wr (HAL.out.trans hnr2)).2
              have y0 := (hcq wr (HAL.out.trans hnr2)).1 0 (by decide)
              simp only [Rep.slice, Nat.add_zero, Nat.mul_one, List.getElem?_cons_zero] at y0
              have hqs := HQS.out m hqL
              have hqn := q4.len
              rw [← hqn] at hqs
              have kq := q4.bound
              have hlmB : lm ≤ 1048576 := by have := HLF1.out; omega
              have e5 : (0 : Int) ≤ (m : Int) := by omega
              have e6 : (m : Int) < (p7 : Int) := by omega
              have e7 : decide (m < p7) = true := decide_eq_true hlt2
              have D3 : Hid (0 ≤ lm - (nq' : Int) → ∀ n (h : n < x.queues.length), n < m + 1 → x.queues[n].length ≤ 1048576) := Lib.hid fun h n hn hn' => by
                by_cases e : n = m
                · subst e; rw [← hqn]; have := HLF1.out; omega
                · exact D2.out h02 n hn (by omega)
              have HNR2 := Lib.hid hnr2
              clear hcq q4 hqn hdone hnw2 hnr2 D2
              go_wp2_with fail
              go_roundw
              case rel => exact ⟨m + 1, lm - (nq' : Int), by omega, by go_num, rfl, by omega, by omega, HNR2.out, D3⟩
              case measure => simp [intOf]; omega
            · have h02' : lm < 0 := by omega
              have e7 : decide (m < p7) = true := decide_eq_true hlt2
              have HDN := Lib.hid (hdone (.inr h02'))
              have hnd : ¬ (0 : Int) ≤ lm := by omega
              clear hdone hnw2 hnr2 D2 h02
              go_wp2_with fail
              go_roundw
              case rel => exact HDN.out
              case measure => simp [intOf]; omega
          · obtain rfl : p7 = m := by omega
            have HDN := Lib.hid (hdone (.inl rfl))
            clear hdone hnw2 hnr2 D2
            go_wp2_with fail
            go_roundw
            case rel => exact HDN.out
            case measure => simp [intOf]; omega
      · have h0' : lf < 0 := by omega
        have hnd : ¬ (0 : Int) ≤ lf := by omega
        have e4 : decide (j < na) = true := decide_eq_true hlt
        have HP : Hid (0 ≤ lf → s.parts.length ≤ 1048576 ∧ ∀ k (h : k < s.parts.length), PartOk s.parts[k]) := Lib.hid fun h => absurd h hnd
        have HNR1 := Lib.hid hnr
        clear hnr h0
        clear D
        go_wp2_with fail
        go_loopw [3, 7] (fun l i wr => ∃ (j : Nat) (l3 : Int), j ≤ nb ∧ i = .int .i64 j ∧ l = .int .i64 l3 ∧ l3 ≤ lf - j ∧ -140737488355328 ≤ l3 ∧ New w1 wr ∧ Hid (0 ≤ l3 → ∀ k (h : k < s.procs.length), k < j → ProcOk s.procs[k])) (fun l i _ => (nb - intOf i).toNat)
        case atStart => exact ⟨0, lf, Nat.zero_le _, rfl, rfl, by omega, by omega, HNR1.out, Lib.hid fun _ k h hk => absurd hk (Nat.not_lt_zero _)⟩
        case round =>
          obtain ⟨j3, l3, hj3, rfl, rfl, hl3, hl32, hnr3, D⟩ := hrel
          obtain ⟨z1, z2⟩ := HST.out _ hnr3
          have hfin : (j3 = nb ∨ l3 < 0) → 0 ≤ l3 → Few s := fun hd h0 => by
            have h1 := HP.out (by omega)
            have hn := HNB.out
            refine ⟨h1.1, fun x hx => ?_, by omega, fun x hx => ?_⟩
            · obtain ⟨k, hk, rfl⟩ := List.mem_iff_getElem.1 hx
              exact h1.2 k hk
            · obtain ⟨k, hk, rfl⟩ := List.mem_iff_getElem.1 hx
              exact D.out h0 k hk (by omega)
          have hle : l3 ≤ 1048576 := by omega
          by_cases hlt3 : j3 < nb
          · by_cases h03 : 0 ≤ l3
            · exfalso; omega
            · have h03' : l3 < 0 := by omega
              have e4 : decide (j3 < nb) = true := decide_eq_true hlt3
              have HFIN := Lib.hid (hfin (.inr h03'))
              have hend := HN.out.trans hnr3
              have hnd : ¬ (0 : Int) ≤ l3 := by omega
              have HEND := Lib.hid hend
              clear hend
              clear hfin hnr3 D h03
              go_wp2_with fail
              go_ret
              exact ⟨HEND.out, false, rfl, fun h => by cases h⟩
          · obtain rfl : nb = j3 := by omega
            have HFIN := Lib.hid (hfin (.inl rfl))
            have hend := HN.out.trans hnr3
            have HEND := Lib.hid hend
            clear hend
            clear hfin hnr3 D
            by_cases h03 : 0 ≤ l3
            · exfalso; omega
            · have h03' : l3 < 0 := by omega
              go_wp2_with fail
              go_ret
              exact ⟨HEND.out, false, rfl, fun h => by cases h⟩
    · obtain rfl : na = j := by omega
      have HP : Hid (0 ≤ lf → s.parts.length ≤ 1048576 ∧ ∀ k (h : k < s.parts.length), PartOk s.parts[k]) := Lib.hid fun h => by
        have := HNA.out
        exact ⟨by omega, fun k hk => D.out h k hk (by omega)⟩
      have HNR1 := Lib.hid hnr
      clear hnr
      clear D
      go_wp2_with fail
      go_loopw [3, 7] (fun l i wr => ∃ (j : Nat) (l3 : Int), j ≤ nb ∧ i = .int .i64 j ∧ l = .int .i64 l3 ∧ l3 ≤ lf - j ∧ -140737488355328 ≤ l3 ∧ New w1 wr ∧ Hid (0 ≤ l3 → ∀ k (h : k < s.procs.length), k < j → ProcOk s.procs[k])) (fun l i _ => (nb - intOf i).toNat)
      case atStart => exact ⟨0, lf, Nat.zero_le _, rfl, rfl, by omega, by omega, HNR1.out, Lib.hid fun _ k h hk => absurd hk (Nat.not_lt_zero _)⟩
      case round =>
        obtain ⟨j3, l3, hj3, rfl, rfl, hl3, hl32, hnr3, D⟩ := hrel
        obtain ⟨z1, z2⟩ := HST.out _ hnr3
        have hfin : (j3 = nb ∨ l3 < 0) → 0 ≤ l3 → Few s := fun hd h0 => by
          have h1 := HP.out (by omega)
          have hn := HNB.out
          refine ⟨h1.1, fun x hx => ?_, by omega, fun x hx => ?_⟩
          · obtain ⟨k, hk, rfl⟩ := List.mem_iff_getElem.1 hx
            exact h1.2 k hk
          · obtain ⟨k, hk, rfl⟩ := List.mem_iff_getElem.1 hx
            exact D.out h0 k hk (by omega)
        have hle : l3 ≤ 1048576 := by omega
        by_cases hlt3 : j3 < nb
        · by_cases h03 : 0 ≤ l3
          · have hiL : j3 < s.procs.length := by have := HNB.out; omega
            obtain ⟨g, o, cs, rfl, hcl, hc⟩ := RB.out j3 hiL
            have hnw := HN.out.trans hnr3
            obtain ⟨p0, p1, p2, rfl, q1⟩ := (hc wr hnw).2
            have x7 := (hc wr hnw).1 14 (by decide)
            simp only [repProc, List.getElem?_cons_zero, List.getElem?_cons_succ] at x7
            obtain ⟨s1, s2⟩ := HZ.out.2 _ (List.getElem_mem hiL)
            have hql := q1.len
            rw [← hql] at s1
            have k1 := q1.bound
            have RL := Lib.hid (sl_here q1 (Nat.le_trans hB' hnw.size))
            have HPOK : Hid (p1 ≤ 1048576 → (∀ k (h : k < s.procs[j3].lanes.length), LaneOk s.procs[j3].lanes[k]) → ProcOk s.procs[j3]) := Lib.hid fun a1 a2 => ⟨by omega, fun q hq => by
              obtain ⟨k, hk, rfl⟩ := List.mem_iff_getElem.1 hq
              exact a2 k hk⟩
            have HQS : Hid (∀ k (h : k < s.procs[j3].lanes.length), s.procs[j3].lanes[k].values.length ≤ 17592186044416 ∧ s.procs[j3].lanes[k].waiters.length ≤ 17592186044416) := Lib.hid fun k h => s2 _ (List.getElem_mem h)
            have HD2 : Hid (ProcOk s.procs[j3] → ∀ k (h : k < s.procs.length), k < j3 + 1 → ProcOk s.procs[k]) := Lib.hid fun h k hk hk' => by
              by_cases e : k = j3
              · subst e; exact h
              · exact D.out h03 k hk (by omega)
            generalize s.procs[j3] = x at *
            have e2 : (0 : Int) ≤ (j3 : Int) := by omega
            have e3 : (j3 : Int) < (nb : Int) := by omega
            have e4 : decide (j3 < nb) = true := decide_eq_true hlt3
            have HNR3 := Lib.hid hnr3
            have HQL := Lib.hid hql
            clear hc hcl q1 s2 D hnw hfin hnr3 hql
            go_wp2_with fail
            go_loopw [3, 9] (fun l k wr' => ∃ (m : Nat) (lm : Int), m ≤ p1 ∧ k = .int .i64 m ∧ l = .int .i64 lm ∧ lm ≤ l3 - 1 - m ∧ -140737488355328 ≤ lm ∧ New wr wr' ∧ Hid (0 ≤ lm → ∀ n (h : n < x.lanes.length), n < m → LaneOk x.lanes[n])) (fun l k _ => (p1 - intOf k).toNat)
            case atStart => exact ⟨0, l3 - 1, Nat.zero_le _, rfl, rfl, by omega, by omega, Kept.refl _ _, Lib.hid fun _ n h hn => absurd hn (Nat.not_lt_zero _)⟩
            case round =>
              rename_i wp _ _
              obtain ⟨m, lm, hm, rfl, rfl, hlm, hlm2, hnr4, D2⟩ := hrel
              have hdone : (m = p1 ∨ lm < 0) → (∃ (j' : Nat) (lf' : Int), j' ≤ nb ∧ Value.int .i64 ((j3 : Int) + 1) = .int .i64 j' ∧ Value.int .i64 lm = .int .i64 lf' ∧ lf' ≤ lf - j' ∧ -140737488355328 ≤ lf' ∧ New w1 wr ∧ Hid (0 ≤ lf' → ∀ k (h : k < s.procs.length), k < j' → ProcOk s.procs[k])) := fun hd =>
                ⟨j3 + 1, lm, by omega, by go_num, rfl, by omega, by omega, HNR3.out.trans hnr4, Lib.hid fun h => HD2.out (HPOK.out (by omega) fun k hk => D2.out h k hk (by have := HQL.out; omega))⟩
              by_cases hlt4 : m < p1
              · by_cases h04 : 0 ≤ lm
                · have hqL : m < x.lanes.length := by have := HQL.out; omega
                  obtain ⟨gq, oq, cq, rfl, -, hcq⟩ := RL.out m hqL
                  obtain ⟨Av, nv, cv, Aw, nw, cw, rfl, q4, q5, -⟩ := (hcq wr hnr4).2
                  have hcx := (hcq wr hnr4).1
                  change ∀ j', j' < 4 → wr.cell? ⟨gq, oq + m * 4 + j', none⟩ = _ at hcx
                  have y0 := hcx 0 (by decide)
                  have y1 := hcx 1 (by decide)
                  simp only [Nat.add_zero, List.getElem?_cons_zero, List.getElem?_cons_succ] at y0 y1
                  have hqs := HQS.out m hqL
                  have hqn := q4.len
                  have hqn2 := q5.len
                  rw [← hqn, ← hqn2] at hqs
                  obtain ⟨t1, t2⟩ := hqs
                  have kq := q4.bound
                  have kq2 := q5.bound
                  have hlmB : lm ≤ 1048576 := by omega
                  have e5 : (0 : Int) ≤ (m : Int) := by omega
                  have e6 : (m : Int) < (p1 : Int) := by omega
                  have e7 : decide (m < p1) = true := decide_eq_true hlt4
                  have D3 : Hid (0 ≤ lm - (1 + (nv : Int) + (nw : Int)) → ∀ n (h : n < x.lanes.length), n < m + 1 → LaneOk x.lanes[n]) := Lib.hid fun h n hn hn' => by
                    by_cases e : n = m
                    · subst e; exact ⟨by rw [← hqn]; omega, by rw [← hqn2]; omega⟩
                    · exact D2.out h04 n hn (by omega)
                  have HNR4 := Lib.hid hnr4
                  have u1 : IntKind.i64.wrap (1 + (nv : Int)) = 1 + (nv : Int) := IntWalk.i64_in _ (by omega)
                  have u2 : IntKind.i64.wrap (1 + (nv : Int) + (nw : Int)) = 1 + (nv : Int) + (nw : Int) := IntWalk.i64_in _ (by omega)
                  have u3 : IntKind.i64.wrap (lm - (1 + (nv : Int) + (nw : Int))) = lm - (1 + (nv : Int) + (nw : Int)) := IntWalk.i64_in _ (by omega)
                  clear hcq q4 q5 hqn hqn2 hdone hnr4 D2 hcx
                  go_wp2_with fail
                  go_big_quiet (fail)
                  go_wp2_with fail
                  clear u1 u2 u3
                  go_roundw
                  case rel => exact ⟨m + 1, lm - (1 + (nv : Int) + (nw : Int)), by omega, by go_num, rfl, by omega, by omega, Kept.drewN HNR4.out _, D3⟩
                  case measure => simp [intOf]; omega
                · have h04' : lm < 0 := by omega
                  have e7 : decide (m < p1) = true := decide_eq_true hlt4
                  have HDN := Lib.hid (hdone (.inr h04'))
                  have hnd : ¬ (0 : Int) ≤ lm := by omega
                  clear hdone hnr4 D2 h04
                  go_wp2_with fail
                  go_roundw
                  case rel => exact HDN.out
                  case measure => simp [intOf]; omega
              · obtain rfl : p1 = m := by omega
                have HDN := Lib.hid (hdone (.inl rfl))
                clear hdone hnr4 D2
                go_wp2_with fail
                go_roundw
                case rel => exact HDN.out
                case measure => simp [intOf]; omega
          · have h03' : l3 < 0 := by omega
            have e4 : decide (j3 < nb) = true := decide_eq_true hlt3
            have HFIN := Lib.hid (hfin (.inr h03'))
            have hend := HN.out.trans hnr3
            have hnd : ¬ (0 : Int) ≤ l3 := by omega
            have HEND := Lib.hid hend
            clear hend
            clear hfin hnr3 D h03
            go_wp2_with fail
            go_ret
            exact ⟨HEND.out, false, rfl, fun h => by cases h⟩
        · obtain rfl : nb = j3 := by omega
          have HFIN := Lib.hid (hfin (.inl rfl))
          have hend := HN.out.trans hnr3
          have HEND := Lib.hid hend
          clear hend
          clear hfin hnr3 D
          by_cases h03 : 0 ≤ l3
          · go_wp2_with fail
            go_ret
            exact ⟨HEND.out, true, rfl, fun _ => HFIN.out h03⟩
          · have h03' : l3 < 0 := by omega
            go_wp2_with fail
            go_ret
            exact ⟨HEND.out, false, rfl, fun h => by cases h⟩
end Go.Proofs.Ytgdmajockejpgaa.View
