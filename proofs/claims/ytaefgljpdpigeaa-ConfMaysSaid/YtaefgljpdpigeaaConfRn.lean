/- The walk of the reference's May, whole (layer 14). -/
import Derived.Test.YtaefgljpdpigeaaConfRm
import Derived.Deep.DeepCutAuto
namespace Go.Proofs.Ytaefgljpdpigeaa.Conf
open Go.RowKit Go.Fb Go.CodeP
set_option linter.unusedVariables false
/-- Is a number of a config as it may be? -/
def okN (c : Cf) (k : Nat) : Bool := decide (numE c k = 0)
theorem ok2 (c : Cf) : withinB c.fuel 1 256 = okN c 2 := by
  unfold okN numE nums rangedE
  cases h : withinB c.fuel 1 256 <;> simp [h]
theorem ok3 (c : Cf) : withinB c.lane 1 64 = okN c 3 := by
  unfold okN numE nums rangedE
  cases h : withinB c.lane 1 64 <;> simp [h]
theorem ok4 (c : Cf) : withinB c.locks 0 8 = okN c 4 := by
  unfold okN numE nums rangedE
  cases h : withinB c.locks 0 8 <;> simp [h]
theorem ok5 (c : Cf) : withinB c.log 0 4096 = okN c 5 := by
  unfold okN numE nums rangedE
  cases h : withinB c.log 0 4096 <;> simp [h]
theorem num_two {c : Cf} {k : Nat} (h : numE c k ≠ 0) : numE c k = 2 := by
  unfold numE rangedE at h ⊢
  generalize (if (k : Int) = 2 then withinB ((nums c).getD k 0) 1 256 else if (k : Int) = 3 then withinB ((nums c).getD k 0) 1 64 else if (k : Int) = 4 then withinB ((nums c).getD k 0) 0 8 else if (k : Int) = 5 then withinB ((nums c).getD k 0) 0 4096 else true) = b at *
  cases b
  · rfl
  · exact absurd rfl h
theorem num_low (c : Cf) {k : Nat} (h : k < 2) : numE c k = 0 := by
  rcases (by omega : k = 0 ∨ k = 1) with rfl | rfl <;> rfl
section
variable {w : World} {B : Nat} {c : Cf} {Al At Ap : Option Addr} {cl ct cp : Nat}
set_option maxRecDepth 100000 in
set_option maxHeartbeats 4000000 in
theorem rmay_any (hl : SliceOf (Rep.int .u64) w B Al c.labels.length cl c.labels) (ht : SliceOf (Rep.int .i64) w B At c.table.length ct c.table) (hp : SliceOf repProc w B Ap c.procs.length cp c.procs) (hB : B ≤ w.heap.size) :
    Calls Try.prog 23 #[.agg (confC c Al cl At ct Ap cp).toArray] w fun e w' => e = .returned (.tuple #[.int .i64 (mayC c).1, .int .i64 (mayC c).2]) ∧ New w w' := by
  have hbl := hl.bound
  have hbt := ht.bound
  have hbp := hp.bound
  have k1 : New w (w.alloc (.cells (confC c Al cl At ct Ap cp).toArray 26)) := (Kept.refl _ _).alloc _
  have hb1 := Blk.made w 26 (confC c Al cl At ct Ap cp).toArray
  have HTB := Lib.hid (fun W (hW : New w W) => rtable_any (hl.kept hW hB fun _ _ h => h) (Nat.le_trans hB hW.size))
  have HTT := Lib.hid (fun W (hW : New w W) p h0 h1 => rtables_any p h0 h1 (ht.kept hW hB fun _ _ h => h) (Nat.le_trans hB hW.size))
  have HPK := Lib.hid (fun W (hW : New w W) => (hp.kept hW hB fun _ _ h => h).more (Nat.le_trans hB hW.size))
  have HWX := Lib.hid (fun n a b W => rwithin_any n a b W)
  unfold confC at k1 hb1 ⊢
  have K1 := Lib.hid k1
  have HB1 := Lib.hid hb1
  clear k1 hb1
  clear hl ht hp
  go_enter Try.func23, Try.ntmps23
  go_upto_region 1 with (fail)
  generalize w.alloc (.cells #[.slice Al c.labels.length cl, .slice At c.table.length ct, .int .i64 c.fuel, .int .i64 c.lane, .int .i64 c.locks, .int .i64 c.log, .slice Ap c.procs.length cp] 26) = w1 at *
  have z0 := HB1.out.cell 0
  have z1 := HB1.out.cell 1
  simp only [List.getElem?_toArray, List.getElem?_cons_zero, List.getElem?_cons_succ] at z0 z1
  go_upto_region 2 with (go_at_call 52; refine (HTB.out _ K1.out).mono ?_; rintro e w2 ⟨rfl, hn2⟩)
  have HN2 := Lib.hid (K1.out.trans hn2)
  have hb2 := HB1.out.kept hn2 id
  clear z0 z1
  have z0 := hb2.cell 0
  have z1 := hb2.cell 1
  simp only [List.getElem?_toArray, List.getElem?_cons_zero, List.getElem?_cons_succ] at z0 z1
  have HB2 := Lib.hid hb2
  clear hb2
  clear hn2
  by_cases h1 : (labE c.labels).1 = 0
  · rw [h1]
    have hll := lab_len h1
    have hmt := HTT.out w2 HN2.out c.labels.length (by omega) (by omega)
    by_cases h2 : tabE c.table c.labels.length = 0
    · have hG0 : Good0 c := by
        by_cases h3 : manyE c.table.length 64 = 0
        · exact ⟨h1, h3, by rw [← tab_new h3 (by omega) (by omega)]; exact h2⟩
        · rw [tab_many h3] at h2; exact absurd h2 h3
      have HG0 := Lib.hid hG0
      rw [h2] at hmt
      clear hG0 h2
      have HMT := Lib.hid hmt
      clear hmt
      go_upto_region 7 with (go_at_call 53; refine HMT.out.mono ?_; rintro e w3 ⟨rfl, hn3⟩)
      have HN3 := Lib.hid (HN2.out.trans hn3)
      have hb3 := HB2.out.kept hn3 id
      clear z0 z1 hn3
      have z2 := hb3.cell 2
      have z3 := hb3.cell 3
      have z4 := hb3.cell 4
      have z5 := hb3.cell 5
      simp only [List.getElem?_toArray, List.getElem?_cons_zero, List.getElem?_cons_succ] at z2 z3 z4 z5
      have HB3 := Lib.hid hb3
      clear hb3
      have HALL := Lib.hid (fun W (hW : New w3 W) => show New w3 W ∧ W.cell? ⟨w.heap.size, 2, none⟩ = some (.int .i64 c.fuel) ∧ W.cell? ⟨w.heap.size, 3, none⟩ = some (.int .i64 c.lane) ∧ W.cell? ⟨w.heap.size, 4, none⟩ = some (.int .i64 c.locks) ∧ W.cell? ⟨w.heap.size, 5, none⟩ = some (.int .i64 c.log) from ⟨hW, (HB3.out.kept hW id).cell 2, (HB3.out.kept hW id).cell 3, (HB3.out.kept hW id).cell 4, (HB3.out.kept hW id).cell 5⟩)
      have HTOT := Lib.hid (And.intro (ok2 c) (And.intro (ok3 c) (And.intro (ok4 c) (ok5 c))))
      clear z2 z3 z4 z5
      go_cut [7] (fun z wx => z = .pointer (some ⟨w3.heap.size, 0, none⟩) ∧ Blk wx w3.heap.size 79 #[.bool (okN c 2), .bool (okN c 3), .bool (okN c 4), .bool (okN c 5)] ∧ New w3 wx)
      case first =>
        go_region_held3 (fun W => New w3 W ∧ W.cell? ⟨w.heap.size, 2, none⟩ = some (.int .i64 c.fuel) ∧ W.cell? ⟨w.heap.size, 3, none⟩ = some (.int .i64 c.lane) ∧ W.cell? ⟨w.heap.size, 4, none⟩ = some (.int .i64 c.locks) ∧ W.cell? ⟨w.heap.size, 5, none⟩ = some (.int .i64 c.log)) (first | exact HALL.out _ (by assumption) | exact HALL.out _ (Kept.refl _ _) | exact HALL.out _ (Kept.refl _ _).drew | exact HALL.out _ ((Kept.refl _ _).alloc _) | exact HALL.out _ ((Kept.refl _ _).drew.alloc _)) (first
          | (go_at_call 54; refine (HWX.out _ _ _ _).mono ?_; rintro e w' ⟨rfl, rfl⟩))
        all_goals
          go_wp2_with fail
          go_meet
          case rel => exact ⟨rfl, by rw [← ok2 c, ← ok3 c, ← ok4 c, ← ok5 c]; exact (Blk.made w3 79 #[.bool (withinB c.fuel 1 256), .bool (withinB c.lane 1 64), .bool (withinB c.locks 0 8), .bool (withinB c.log 0 4096)]).kept (Kept.refl (fun _ => False) _).drew id, ((Kept.refl _ _).alloc _).drew⟩
      case rest =>
        obtain ⟨rfl, hc4, hn4⟩ := hcut
        have hb4 := HB3.out.kept hn4 id
        have hn4' := HN3.out.trans hn4
        have hgd : ∀ k, k < 4 → (#[.bool (okN c 2), .bool (okN c 3), .bool (okN c 4), .bool (okN c 5)] : Array Value)[k]? = some (.bool (okN c (k + 2))) := fun k hk => by
          rcases (by omega : k = 0 ∨ k = 1 ∨ k = 2 ∨ k = 3) with rfl | rfl | rfl | rfl <;> rfl
        have hlt3 : w3.heap.size < wc.heap.size := hc4.lt
        clear hn4
        generalize w3.heap.size = ab at *
        have HB4 := Lib.hid hb4
        have HN4' := Lib.hid hn4'
        have HC4 := Lib.hid hc4
        clear hb4 hn4' hc4
        clear HALL HTOT HB3 HN3
        go_wp2_with fail
        go_loopw [8] (fun s wr => ∃ k : Nat, k ≤ 4 ∧ s = .int .i64 k ∧ New w wr ∧ Blk wr w.heap.size 26 (confC c Al cl At ct Ap cp).toArray ∧ Blk wr ab 79 #[.bool (okN c 2), .bool (okN c 3), .bool (okN c 4), .bool (okN c 5)] ∧ Hid (∀ j, j < k + 2 → numE c j = 0)) (fun s _ => (4 - intOf s).toNat)
        case atStart => exact ⟨0, by omega, rfl, HN4'.out, HB4.out, HC4.out, Lib.hid fun j h => num_low c (by omega)⟩
        case round =>
          obtain ⟨k, hk, rfl, hnr, hbr, hcr, hno⟩ := hrel
          have HNR := Lib.hid hnr
          have HBR := Lib.hid hbr
          clear hnr hbr
          clear HN4' HB4 HC4
          by_cases hlt : k < 4
          · have zk := (hcr.cell k).trans (hgd k hlt)
            by_cases hq : numE c (k + 2) = 0
            · have HNX := Lib.hid (show ∀ j, j < k + 1 + 2 → numE c j = 0 from fun j hj => by
                by_cases e : j = k + 2
                · subst e; exact hq
                · exact hno.out j (by omega))
              rw [show okN c (k + 2) = true from decide_eq_true hq] at zk
              have HCR := Lib.hid hcr
              clear hcr
              clear hq hgd
              go_wp2_with fail
              go_roundw
              case rel => exact ⟨k + 1, by omega, by go_num, HNR.out, HBR.out, HCR.out, HNX⟩
              case measure => simp [intOf]; omega
            · have E := Lib.hid ((mayC_num HG0.out (k := k + 2) (by omega) hno.out hq).trans (by rw [num_two hq]))
              have hadd : IntKind.i64.wrap (2 + (k : Int)) = 2 + (k : Int) := IntWalk.i64_in _ (by omega)
              rw [show okN c (k + 2) = false from decide_eq_false hq] at zk
              clear hq hcr hgd
              go_wp2_with fail
              go_ret2
              rw [E.out]
              exact ⟨by simp [Array.getD]; omega, HNR.out⟩
          · obtain rfl : k = 4 := by omega
            rw [show ((4 : Nat) : Int) = 4 from rfl]
            have HNO := Lib.hid (show ∀ j, j < 6 → numE c j = 0 from hno.out)
            clear hcr hgd hno
            have z6 := HBR.out.cell 6
            unfold confC at z6
            simp only [List.getElem?_toArray, List.getElem?_cons_zero, List.getElem?_cons_succ] at z6
            by_cases q0 : c.procs.length = 0
            · have E := Lib.hid (show mayC c = (1, 6) by rw [mayC_many HG0.out HNO.out (by unfold manyE; rw [if_pos (by omega)]; decide)]; unfold manyE; rw [if_pos (by omega)])
              rw [q0] at z6
              go_wp2_with fail
              go_ret2
              rw [E.out]
              exact ⟨by simp [Array.getD], HNR.out⟩
            · by_cases q1 : 32 < c.procs.length
              · have hm3 : manyE c.procs.length 32 = 3 := by unfold manyE; rw [if_neg (by omega), if_pos (by omega)]
                have E := Lib.hid (show mayC c = (3, 6) by rw [mayC_many HG0.out HNO.out (by rw [hm3]; decide), hm3])
                have q1' : (32 : Int) < (c.procs.length : Int) := by omega
                have q0' : ((c.procs.length : Int) == 0) = false := by simpa using q0
                clear q0 q1
                go_wp2_with fail
                go_ret2
                rw [E.out]
                exact ⟨by simp [Array.getD], HNR.out⟩
              · have h4 : manyE c.procs.length 32 = 0 := by unfold manyE; rw [if_neg (by omega), if_neg (by omega)]
                have q1' : decide ((32 : Int) < (c.procs.length : Int)) = false := decide_eq_false (by omega)
                have q0' : ((c.procs.length : Int) == 0) = false := by simpa using q0
                have hpl : c.procs.length ≤ 32 := by omega
                clear q0 q1
                go_wp2_with fail
                clear z6
                go_loopw [9] (fun s wr => ∃ i : Nat, i ≤ c.procs.length ∧ s = .int .i64 i ∧ New w wr ∧ Blk wr w.heap.size 26 (confC c Al cl At ct Ap cp).toArray ∧ Hid (∀ j (hj : j < c.procs.length), j < i → procE c.labels.length c.locks c.procs[j] = 0)) (fun s _ => (c.procs.length - intOf s).toNat)
                case atStart => exact ⟨0, Nat.zero_le _, rfl, HNR.out, HBR.out, Lib.hid fun j hj h => absurd h (Nat.not_lt_zero _)⟩
                case round =>
                  obtain ⟨i, hi, rfl, hnr, hbr, hpn⟩ := hrel
                  clear HNR HBR
                  have z0 := hbr.cell 0
                  have z4 := hbr.cell 4
                  have z6 := hbr.cell 6
                  unfold confC at z0 z4 z6
                  simp only [List.getElem?_toArray, List.getElem?_cons_zero, List.getElem?_cons_succ] at z0 z4 z6
                  by_cases hlt : i < c.procs.length
                  · obtain ⟨b, o, eA, hbb, hpc⟩ := proc_at (HPK.out wr hnr) (by omega)
                    subst eA
                    obtain ⟨A', c', ⟨x0, x1⟩, x2, -⟩ := hpc i hlt
                    have hsub : IntKind.i64.wrap ((c.labels.length : Int) - 1) = (c.labels.length : Int) - 1 := IntWalk.i64_in _ (by omega)
                    have hadd : IntKind.i64.wrap (7 + (i : Int)) = 7 + (i : Int) := IntWalk.i64_in _ (by omega)
                    have HWI : Hid (∀ W, Calls Try.prog 54 #[.int .i64 c.procs[i].1, .int .i64 0, .int .i64 ((c.labels.length : Int) - 1)] W fun e w' => e = .returned (.bool (withinB c.procs[i].1 0 ((c.labels.length : Int) - 1))) ∧ w' = W) := Lib.hid (fun W => (HWX.out c.procs[i].1 0 ((c.labels.length : Int) - 1) W).mono fun e w' h => ⟨h.1, h.2.symm⟩)
                    have HCM := Lib.hid (fun W (hW : New wr W) => Code.ref_may A' c.procs[i].2.length c' c.procs[i].2 c.locks W ((x2.kept hW (Nat.le_refl _) fun _ _ h => h).more hW.size))
                    have hpe : procE c.labels.length c.locks c.procs[i] = if withinB c.procs[i].1 0 ((c.labels.length : Int) - 1) then (may c.procs[i].2 c.locks).1 else 2 := rfl
                    have HNR := Lib.hid hnr
                    have HBR := Lib.hid hbr
                    have HPE := Lib.hid hpe
                    have X2 := Lib.hid x2
                    clear hnr hbr hpe x2
                    clear hpc
                    have E1 := Lib.hid (fun h => mayC_proc HG0.out HNO.out h4 hlt hpn.out h)
                    have E2 := Lib.hid (fun (h : procE c.labels.length c.locks c.procs[i] = 0) => show ∀ j (hj : j < c.procs.length), j < i + 1 → procE c.labels.length c.locks c.procs[j] = 0 from fun j hj hji => by
                      by_cases e : j = i
                      · subst e; exact h
                      · exact hpn.out j hj (by omega))
                    clear h4
                    generalize procE c.labels.length c.locks c.procs[i] = pe at *
                    generalize c.procs[i] = pr at *
                    obtain ⟨pp, pl⟩ := pr
                    simp only at x0 x1 hsub HWI HCM
                    cases hw : withinB pp 0 ((c.labels.length : Int) - 1) with
                    | false =>
                      have E := Lib.hid (E1.out (by rw [HPE.out]; simp only; rw [hw, if_neg (by decide)]; decide))
                      have HPF := Lib.hid (show pe = 2 by rw [HPE.out]; simp only; rw [hw]; rfl)
                      rw [hw] at HWI
                      go_wp2_with fail
                      go_quiet (exact Calls.quiet_of_same (HWI.out _))
                      go_wp2_with fail
                      go_ret2
                      rw [E.out, HPF.out]
                      exact ⟨by simp [Array.getD], HNR.out.drewN _⟩
                    | true =>
                      rw [hw] at HWI
                      have hpf : pe = (may pl c.locks).1 := by rw [HPE.out]; simp only; rw [hw]; rfl
                      go_wp2_with fail
                      go_quiet (exact Calls.quiet_of_same (HWI.out _))
                      go_wp2_with fail
                      have hdq : New wr (wr.drewN nq) := (Kept.refl _ _).drewN _
                      have q1 := (hdq.cell (p := ⟨b, o + i * 2 + 1, none⟩) hbb id).trans x1
                      have hbq := HBR.out.kept hdq id
                      have q4 := hbq.cell 4
                      have q6 := hbq.cell 6
                      unfold confC at q4 q6
                      simp only [List.getElem?_toArray, List.getElem?_cons_zero, List.getElem?_cons_succ] at q4 q6
                      have HNQ := Lib.hid (HNR.out.trans hdq)
                      have HDQ := Lib.hid hdq
                      have HBQ := Lib.hid hbq
                      clear hdq hbq x0 x1 z0 z4 z6 HNR HBR
                      generalize wr.drewN nq = wq at *
                      have HS := Lib.hid (fun W (hW : New wq W) => show W.cell? ⟨b, o + i * 2 + 1, none⟩ = some (.slice A' pl.length c') ∧ W.cell? ⟨w.heap.size, 4, none⟩ = some (.int .i64 c.locks) ∧ W.cell? ⟨w.heap.size, 6, none⟩ = some (.slice (some ⟨b, o, none⟩) c.procs.length cp) from ⟨(hW.cell (p := ⟨b, o + i * 2 + 1, none⟩) (by have := HDQ.out.size; show b < _; omega) id).trans q1, ((HBQ.out.kept hW id).cell 4).trans (by unfold confC; rfl), ((HBQ.out.kept hW id).cell 6).trans (by unfold confC; rfl)⟩)
                      by_cases hm : (may pl c.locks).1 = 0
                      · have E3 := Lib.hid (E2.out (hpf.trans hm))
                        rw [hm] at HCM
                        clear hm hpf
                        go_region_held3 (fun W => W.cell? ⟨b, o + i * 2 + 1, none⟩ = some (.slice A' pl.length c') ∧ W.cell? ⟨w.heap.size, 4, none⟩ = some (.int .i64 c.locks) ∧ W.cell? ⟨w.heap.size, 6, none⟩ = some (.slice (some ⟨b, o, none⟩) c.procs.length cp)) (first | exact HS.out _ (by assumption) | exact HS.out _ (Kept.refl _ _) | exact HS.out _ (Kept.refl _ _).drew | exact HS.out _ ((by assumption : New wq _).drew)) (first
                          | (go_at_call 55; refine (HCM.out _ (by first | exact HDQ.out | exact HDQ.out.drew)).mono ?_; rintro e w9 ⟨rfl, hn9⟩; have HN9 := Lib.hid (show New wq w9 from by first | exact hn9 | exact (Kept.refl _ _).drew.trans hn9); have hn9' := HN9.out; clear hn9))
                        all_goals
                          go_wp2_with fail
                          go_roundw
                          case rel => exact ⟨i + 1, by omega, by go_num, by first | exact HNQ.out.trans HN9.out | exact (HNQ.out.trans HN9.out).drew, by first | exact HBQ.out.kept HN9.out id | exact HBQ.out.kept HN9.out.drew id, E3⟩
                          case measure => simp [intOf]; omega
                      · have E := Lib.hid (E1.out (by rw [hpf]; exact hm))
                        have HPF := Lib.hid hpf
                        clear hpf
                        generalize (may pl c.locks).1 = me at *
                        have hm' : (me != 0) = true := by simpa using hm
                        clear hm
                        go_region_held3 (fun W => W.cell? ⟨b, o + i * 2 + 1, none⟩ = some (.slice A' pl.length c') ∧ W.cell? ⟨w.heap.size, 4, none⟩ = some (.int .i64 c.locks) ∧ W.cell? ⟨w.heap.size, 6, none⟩ = some (.slice (some ⟨b, o, none⟩) c.procs.length cp)) (first | exact HS.out _ (by assumption) | exact HS.out _ (Kept.refl _ _) | exact HS.out _ (Kept.refl _ _).drew | exact HS.out _ ((by assumption : New wq _).drew)) (first
                          | (go_at_call 55; refine (HCM.out _ (by first | exact HDQ.out | exact HDQ.out.drew)).mono ?_; rintro e w9 ⟨rfl, hn9⟩; have HN9 := Lib.hid (show New wq w9 from by first | exact hn9 | exact (Kept.refl _ _).drew.trans hn9); have hn9' := HN9.out; clear hn9))
                        all_goals
                          go_wp2_with fail
                          go_ret2
                          rw [E.out, HPF.out]
                          exact ⟨by simp [Array.getD], by first | exact HNQ.out.trans HN9.out | exact (HNQ.out.trans HN9.out).drew⟩
                  · obtain rfl : i = c.procs.length := by omega
                    have E := Lib.hid (mayC_ok HG0.out HNO.out h4 (fun j hj => hpn.out j hj hj))
                    have HNR := Lib.hid hnr
                    clear hnr hbr h4
                    go_wp2_with fail
                    go_ret2
                    rw [E.out]
                    exact ⟨by simp [Array.getD], HNR.out⟩
    · have E := Lib.hid (show mayC c = (tabE c.table c.labels.length, 1) by
        unfold mayC
        rw [if_neg (fun h => h h1)]
        by_cases h3 : manyE c.table.length 64 = 0
        · have h4 := tab_new h3 (show 1 ≤ (c.labels.length : Int) by omega) (by omega)
          rw [if_neg (fun h => h h3), if_pos (by rw [← h4]; exact h2), h4]
        · rw [if_pos h3, tab_many h3])
      generalize tabE c.table c.labels.length = te at *
      have h2' : (te != 0) = true := by simpa using h2
      have HMT := Lib.hid hmt
      clear hmt
      go_wp2_with (go_at_call 53; refine HMT.out.mono ?_; rintro e w3 ⟨rfl, hn3⟩)
      go_ret2
      rw [E.out]
      exact ⟨by simp [Array.getD], HN2.out.trans hn3⟩
  · have E := Lib.hid (show mayC c = ((labE c.labels).1, 0) by unfold mayC; rw [if_pos h1])
    generalize (labE c.labels).1 = e1 at *
    go_wp2_with fail
    go_ret2
    rw [E.out]
    exact ⟨by simp [Array.getD], HN2.out⟩
end
end Go.Proofs.Ytaefgljpdpigeaa.Conf
