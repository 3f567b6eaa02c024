/- The walk of conf.May (layer 14): begun. -/
import Derived.Test.YtaefgljpdpigeaaConfR
namespace Go.Proofs.Ytaefgljpdpigeaa.Conf
open Go.RowKit Go.Fb Go.CodeP
set_option linter.unusedVariables false
theorem newE_ok {T : List Int} {parts : Int} (h : (Slots.newE T parts).1 = 0) : Slots.newE T parts = (0, 0) := by
  unfold Slots.newE at h ⊢
  by_cases h1 : parts < 1 ∨ 8 < parts ∨ T.length = 0
  · rw [if_pos h1] at h; exact absurd h (by decide)
  · rw [if_neg h1] at h ⊢
    by_cases h2 : 64 < T.length
    · rw [if_pos h2] at h; exact absurd h (by decide)
    · rw [if_neg h2] at h ⊢
      by_cases h3 : T.findIdx (Slots.bad parts) < T.length
      · rw [if_pos h3] at h; exact absurd (show (2 : Int) = 0 from h) (by decide)
      · rw [if_neg h3]
/-- The numbers of a config, by part. -/
def nums (c : Cf) : List Int := [0, 0, c.fuel, c.lane, c.locks, c.log]
def Good0 (c : Cf) : Prop := (labE c.labels).1 = 0 ∧ manyE c.table.length 64 = 0 ∧ (Slots.newE c.table c.labels.length).1 = 0
def numE (c : Cf) (k : Nat) : Int := rangedE k ((nums c).getD k 0)
theorem mayC_num {c : Cf} (h : Good0 c) {k : Nat} (hk : k < 6) (h1 : ∀ j, j < k → numE c j = 0) (h2 : numE c k ≠ 0) : mayC c = (numE c k, (k : Int)) := by
  obtain ⟨a1, a2, a3⟩ := h
  unfold mayC
  rw [if_neg (fun h => h a1), if_neg (fun h => h a2), if_neg (fun h => h a3)]
  rcases (by omega : k = 0 ∨ k = 1 ∨ k = 2 ∨ k = 3 ∨ k = 4 ∨ k = 5) with rfl | rfl | rfl | rfl | rfl | rfl
  · exact absurd rfl h2
  · exact absurd rfl h2
  · rw [if_pos (show rangedE 2 c.fuel ≠ 0 from h2)]; rfl
  · rw [if_neg (show ¬ rangedE 2 c.fuel ≠ 0 from fun h => h (h1 2 (by omega))), if_pos (show rangedE 3 c.lane ≠ 0 from h2)]; rfl
  · rw [if_neg (show ¬ rangedE 2 c.fuel ≠ 0 from fun h => h (h1 2 (by omega))), if_neg (show ¬ rangedE 3 c.lane ≠ 0 from fun h => h (h1 3 (by omega))), if_pos (show rangedE 4 c.locks ≠ 0 from h2)]; rfl
  · rw [if_neg (show ¬ rangedE 2 c.fuel ≠ 0 from fun h => h (h1 2 (by omega))), if_neg (show ¬ rangedE 3 c.lane ≠ 0 from fun h => h (h1 3 (by omega))), if_neg (show ¬ rangedE 4 c.locks ≠ 0 from fun h => h (h1 4 (by omega))), if_pos (show rangedE 5 c.log ≠ 0 from h2)]; rfl
theorem mayC_rest {c : Cf} (h : Good0 c) (h1 : ∀ j, j < 6 → numE c j = 0) : mayC c = if manyE c.procs.length 32 ≠ 0 then (manyE c.procs.length 32, 6)
  else match (List.range c.procs.length).find? (fun i => decide (procE c.labels.length c.locks (c.procs.getD i (0, [])) ≠ 0)) with
    | some i => (procE c.labels.length c.locks (c.procs.getD i (0, [])), 7 + (i : Int))
    | none => (0, 0) := by
  obtain ⟨a1, a2, a3⟩ := h
  unfold mayC
  rw [if_neg (fun h => h a1), if_neg (fun h => h a2), if_neg (fun h => h a3), if_neg (show ¬ rangedE 2 c.fuel ≠ 0 from fun h => h (h1 2 (by omega))), if_neg (show ¬ rangedE 3 c.lane ≠ 0 from fun h => h (h1 3 (by omega))), if_neg (show ¬ rangedE 4 c.locks ≠ 0 from fun h => h (h1 4 (by omega))), if_neg (show ¬ rangedE 5 c.log ≠ 0 from fun h => h (h1 5 (by omega)))]
  rfl
theorem mayC_many {c : Cf} (h : Good0 c) (h1 : ∀ j, j < 6 → numE c j = 0) (h2 : manyE c.procs.length 32 ≠ 0) : mayC c = (manyE c.procs.length 32, 6) := by
  rw [mayC_rest h h1, if_pos h2]
theorem mayC_proc {c : Cf} (h : Good0 c) (h1 : ∀ j, j < 6 → numE c j = 0) (h2 : manyE c.procs.length 32 = 0) {i : Nat} (hi : i < c.procs.length) (h3 : ∀ j (hj : j < c.procs.length), j < i → procE c.labels.length c.locks c.procs[j] = 0) (h4 : procE c.labels.length c.locks c.procs[i] ≠ 0) :
    mayC c = (procE c.labels.length c.locks c.procs[i], 7 + (i : Int)) := by
  have e : (List.range c.procs.length).find? (fun i => decide (procE c.labels.length c.locks (c.procs.getD i (0, [])) ≠ 0)) = some i := by
    rw [List.find?_range_eq_some]
    refine ⟨?_, List.mem_range.2 hi, fun j hj => ?_⟩
    · rw [List.getD_eq_getElem?_getD, List.getElem?_eq_getElem hi]; exact decide_eq_true h4
    · have := h3 j (by omega) hj
      rw [List.getD_eq_getElem?_getD, List.getElem?_eq_getElem (by omega), Option.getD_some, this]; rfl
  rw [mayC_rest h h1, if_neg (fun h => h h2), e]
  simp only
  rw [List.getD_eq_getElem?_getD, List.getElem?_eq_getElem hi]
  rfl
theorem mayC_ok {c : Cf} (h : Good0 c) (h1 : ∀ j, j < 6 → numE c j = 0) (h2 : manyE c.procs.length 32 = 0) (h3 : ∀ j (hj : j < c.procs.length), procE c.labels.length c.locks c.procs[j] = 0) : mayC c = (0, 0) := by
  have e : (List.range c.procs.length).find? (fun i => decide (procE c.labels.length c.locks (c.procs.getD i (0, [])) ≠ 0)) = none := by
    rw [List.find?_eq_none]
    intro j hj hd
    have hj := List.mem_range.1 hj
    rw [List.getD_eq_getElem?_getD, List.getElem?_eq_getElem hj] at hd
    exact (of_decide_eq_true hd) (h3 j hj)
  rw [mayC_rest h h1, if_neg (fun h => h h2), e]
theorem nums_cell (c : Cf) {k : Nat} (hk : k < 6) : (#[.int .i64 0, .int .i64 0, .int .i64 c.fuel, .int .i64 c.lane, .int .i64 c.locks, .int .i64 c.log] : Array Value)[k]? = some (.int .i64 ((nums c).getD k 0)) := by
  rcases (by omega : k = 0 ∨ k = 1 ∨ k = 2 ∨ k = 3 ∨ k = 4 ∨ k = 5) with rfl | rfl | rfl | rfl | rfl | rfl <;> rfl
/-- What Code's own label count is. -/
theorem lab_len {l : List Int} (h : (labE l).1 = 0) : 1 ≤ l.length ∧ l.length ≤ 8 := by
  unfold labE at h
  split at h
  · exact absurd h (by decide)
  · split at h
    · exact absurd h (by decide)
    · omega
section
variable {w : World} {B : Nat} {c : Cf} {Al At Ap : Option Addr} {cl ct cp : Nat}
set_option maxRecDepth 100000 in
set_option maxHeartbeats 4000000 in
theorem may_any (hl : SliceOf (Rep.int .u64) w B Al c.labels.length cl c.labels) (ht : SliceOf (Rep.int .i64) w B At c.table.length ct c.table) (hp : SliceOf repProc w B Ap c.procs.length cp c.procs) (hB : B ≤ w.heap.size) :
    Calls Try.prog 15 #[.agg (confC c Al cl At ct Ap cp).toArray] w fun e w' => e = .returned (.tuple #[.int .i64 (mayC c).1, .int .i64 (mayC c).2]) ∧ New w w' := by
  have hbl := hl.bound
  have hbt := ht.bound
  have hbp := hp.bound
  have k1 : New w (w.alloc (.cells (confC c Al cl At ct Ap cp).toArray 26)) := (Kept.refl _ _).alloc _
  have hb1 := Blk.made w 26 (confC c Al cl At ct Ap cp).toArray
  have HTB := Lib.hid (fun W (hW : New w W) => table_any (hl.kept hW hB fun _ _ h => h) (Nat.le_trans hB hW.size))
  have HMY := Lib.hid (fun n m W => many_any n m W)
  have HSN := Lib.hid (fun W (hW : New w W) p => Slots.new_any At c.table.length ct c.table p W ((ht.kept hW hB fun _ _ h => h).more (Nat.le_trans hB hW.size)))
  have HRG := Lib.hid (fun p n W => ranged_any p n W)
  have HPK := Lib.hid (fun W (hW : New w W) => (hp.kept hW hB fun _ _ h => h).more (Nat.le_trans hB hW.size))
  unfold confC at k1 hb1 ⊢
  have K1 := Lib.hid k1
  have HB1 := Lib.hid hb1
  clear k1 hb1
  clear hl ht hp
  go_enter Try.func15, Try.ntmps15
  go_upto_region 1 with (fail)
  generalize w.alloc (.cells #[.slice Al c.labels.length cl, .slice At c.table.length ct, .int .i64 c.fuel, .int .i64 c.lane, .int .i64 c.locks, .int .i64 c.log, .slice Ap c.procs.length cp] 26) = w1 at *
  have z0 := HB1.out.cell 0
  have z1 := HB1.out.cell 1
  simp only [List.getElem?_toArray, List.getElem?_cons_zero, List.getElem?_cons_succ] at z0 z1
  go_wp2_with fail
  refine (HTB.out _ K1.out).mono ?_
  rintro e w2 ⟨rfl, hn2⟩
  have HN2 := Lib.hid (K1.out.trans hn2)
  have hb2 := HB1.out.kept hn2 id
  clear z0 z1
  have z0 := hb2.cell 0
  have z1 := hb2.cell 1
  simp only [List.getElem?_toArray, List.getElem?_cons_zero, List.getElem?_cons_succ] at z0 z1
  have HB2 := Lib.hid hb2
  clear hb2
  clear hn2
  by_cases h1 : (labE c.labels).1 = 0
  · rw [h1]
    have hmt := HMY.out (c.table.length : Int) 64 w2
    by_cases h2 : manyE c.table.length 64 = 0
    · rw [h2] at hmt
      have hsn := HSN.out w2 HN2.out c.labels.length
      have HMT := Lib.hid hmt
      have HSN_ := Lib.hid hsn
      clear hmt hsn
      go_wp2_with fail
      refine HMT.out.mono ?_
      rintro e w' ⟨rfl, rfl⟩
      go_wp2_with fail
      refine HSN_.out.mono ?_
      rintro e w3 ⟨hn3, h3⟩
      have HN3 := Lib.hid (HN2.out.trans hn3)
      have HB3 := Lib.hid (HB2.out.kept hn3 id)
      clear hn3 z0 z1
      rcases h3 with ⟨h3, b3, rfl⟩ | ⟨h3, rfl⟩
      · have hG0 : Good0 c := ⟨h1, h2, by rw [h3]⟩
        have hll := lab_len h1
        have HG0 := Lib.hid hG0
        have HPR := Lib.hid (fun W (hW : New w W) => HPK.out W hW)
        clear h3 hG0
        have z2 := HB3.out.cell 2
        have z3 := HB3.out.cell 3
        have z4 := HB3.out.cell 4
        have z5 := HB3.out.cell 5
        simp only [List.getElem?_toArray, List.getElem?_cons_zero, List.getElem?_cons_succ] at z2 z3 z4 z5
        have HN4 := Lib.hid (HN3.out.alloc (.cells #[.int .i64 0, .int .i64 0, .int .i64 c.fuel, .int .i64 c.lane, .int .i64 c.locks, .int .i64 c.log] 3))
        have HB4 := Lib.hid (HB3.out.kept ((Kept.refl (fun _ => False) w3).alloc (.cells #[.int .i64 0, .int .i64 0, .int .i64 c.fuel, .int .i64 c.lane, .int .i64 c.locks, .int .i64 c.log] 3)) id)
        have HC4 := Lib.hid (Blk.made w3 3 #[.int .i64 0, .int .i64 0, .int .i64 c.fuel, .int .i64 c.lane, .int .i64 c.locks, .int .i64 c.log])
        go_wp2_with fail
        clear z2 z3 z4 z5
        go_loopw [57] (fun s wr => ∃ k : Nat, k ≤ 6 ∧ s = .int .i64 k ∧ New w wr ∧ Blk wr w.heap.size 26 (confC c Al cl At ct Ap cp).toArray ∧ Blk wr w3.heap.size 3 #[.int .i64 0, .int .i64 0, .int .i64 c.fuel, .int .i64 c.lane, .int .i64 c.locks, .int .i64 c.log] ∧ Hid (∀ j, j < k → numE c j = 0)) (fun s _ => (6 - intOf s).toNat)
        case atStart => exact ⟨0, by omega, rfl, HN4.out, HB4.out, HC4.out, Lib.hid fun j h => absurd h (Nat.not_lt_zero _)⟩
        case round =>
          obtain ⟨k, hk, rfl, hnr, hbr, hcr, hno⟩ := hrel
          have HNR := Lib.hid hnr
          have HBR := Lib.hid hbr
          clear hnr hbr
          clear HN4 HB4 HC4
          by_cases hlt : k < 6
          · have zk := (hcr.cell k).trans (nums_cell c hlt)
            have hrg := HRG.out (k : Int) ((nums c).getD k 0) wr
            by_cases hq : numE c k = 0
            · have HNX := Lib.hid (show ∀ j, j < k + 1 → numE c j = 0 from fun j hj => by
                by_cases e : j = k
                · subst e; exact hq
                · exact hno.out j (by omega))
              rw [show rangedE (k : Int) ((nums c).getD k 0) = 0 from hq] at hrg
              generalize (nums c).getD k 0 = v at *
              have HRG2 := Lib.hid hrg
              have HCR := Lib.hid hcr
              clear hrg hcr
              clear hq
              go_wp2_with fail
              refine HRG2.out.mono ?_
              rintro e w' ⟨rfl, rfl⟩
              go_wp2_with fail
              go_roundw
              case rel => exact ⟨k + 1, by omega, by go_num, HNR.out, HBR.out, HCR.out, HNX⟩
              case measure => simp [intOf]; omega
            · have E := Lib.hid (mayC_num HG0.out hlt hno.out hq)
              unfold numE at E hq
              generalize rangedE (k : Int) ((nums c).getD k 0) = r at *
              generalize (nums c).getD k 0 = v at *
              have hq' : (r != 0) = true := by simpa using hq
              have HRG2 := Lib.hid hrg
              clear hrg
              clear hq hcr
              go_wp2_with fail
              refine HRG2.out.mono ?_
              rintro e w' ⟨rfl, rfl⟩
              go_wp2_with fail
              go_ret2
              rw [E.out]
              exact ⟨by simp [Array.getD], HNR.out⟩
          · obtain rfl : k = 6 := by omega
            clear hcr
            have z6 := HBR.out.cell 6
            unfold confC at z6
            simp only [List.getElem?_toArray, List.getElem?_cons_zero, List.getElem?_cons_succ] at z6
            have hmt := HMY.out (c.procs.length : Int) 32 wr
            by_cases h4 : manyE c.procs.length 32 = 0
            · rw [h4] at hmt
              have HMT2 := Lib.hid hmt
              clear hmt
              go_wp2_with fail
              refine HMT2.out.mono ?_
              rintro e w' ⟨rfl, rfl⟩
              have hbp := hbp
              have z0 := HBR.out.cell 0
              have z4 := HBR.out.cell 4
              unfold confC at z0 z4
              simp only [List.getElem?_toArray, List.getElem?_cons_zero, List.getElem?_cons_succ] at z0 z4
              have HNO := Lib.hid hno.out
              clear hno
              go_wp2_with fail
              clear z0 z4 z6
              go_loopw [80] (fun s wr => ∃ i : Nat, i ≤ c.procs.length ∧ s = .int .i64 i ∧ New w wr ∧ Blk wr w.heap.size 26 (confC c Al cl At ct Ap cp).toArray ∧ Hid (∀ j (hj : j < c.procs.length), j < i → procE c.labels.length c.locks c.procs[j] = 0)) (fun s _ => (c.procs.length - intOf s).toNat)
              case atStart => exact ⟨0, Nat.zero_le _, rfl, HNR.out, HBR.out, Lib.hid fun j hj h => absurd h (Nat.not_lt_zero _)⟩
              case round =>
                obtain ⟨i, hi, rfl, hnr, hbr, hpn⟩ := hrel
                clear HNR HBR
                have z0 := hbr.cell 0
                have z4 := hbr.cell 4
                unfold confC at z0 z4
                simp only [List.getElem?_toArray, List.getElem?_cons_zero, List.getElem?_cons_succ] at z0 z4
                by_cases hlt : i < c.procs.length
                · obtain ⟨b, o, rfl, hbb, hpc⟩ := proc_at (HPR.out wr hnr) (by omega)
                  obtain ⟨A', c', ⟨x0, x1⟩, x2, -⟩ := hpc i hlt
                  have hsub : IntKind.i64.wrap ((c.labels.length : Int) - 1) = (c.labels.length : Int) - 1 := IntWalk.i64_in _ (by omega)
                  have hpl : c.procs.length ≤ 32 := by
                    unfold manyE at h4
                    split at h4
                    · exact absurd h4 (by decide)
                    · split at h4
                      · exact absurd h4 (by decide)
                      · omega
                  have hadd : IntKind.i64.wrap (7 + (i : Int)) = 7 + (i : Int) := IntWalk.i64_in _ (by omega)
                  have HWI := Lib.hid (fun W => within_any c.procs[i].1 0 ((c.labels.length : Int) - 1) W)
                  have HCM := Lib.hid (fun W (hW : New wr W) => Code.may_any A' c.procs[i].2.length c' c.procs[i].2 c.locks W ((x2.kept hW (Nat.le_refl _) fun _ _ h => h).more hW.size))
                  have hpe : procE c.labels.length c.locks c.procs[i] = if withinB c.procs[i].1 0 ((c.labels.length : Int) - 1) then (may c.procs[i].2 c.locks).1 else 2 := rfl
                  have HNR := Lib.hid hnr
                  have HBR := Lib.hid hbr
                  have HPE := Lib.hid hpe
                  have X2 := Lib.hid x2
                  clear hnr hbr hpe x2
                  clear hpc
                  have E1 := Lib.hid (fun h => mayC_proc HG0.out HNO.out h4 hlt hpn.out h)
                  have E2 := Lib.hid (fun (h : procE c.labels.length c.locks c.procs[i] = 0) => show ∀ j (hj : j < c.procs.length), j < i + 1 → procE c.labels.length c.locks c.procs[j] = 0 from fun j hj hji => by
                    by_cases e : j = i
                    · subst e; exact h
                    · exact hpn.out j hj (by omega))
                  have E0 := Lib.hid h4
                  clear h4
                  generalize procE c.labels.length c.locks c.procs[i] = pe at *
                  generalize c.procs[i] = pr at *
                  obtain ⟨pp, pl⟩ := pr
                  simp only at x0 x1 hsub HWI HCM
                  have k5 : New wr (wr.alloc (.cells #[.int .i64 pp, .slice A' pl.length c'] 37)) := (Kept.refl _ _).alloc _
                  have b5 := Blk.made wr 37 #[.int .i64 pp, .slice A' pl.length c']
                  have b6 := HBR.out.kept k5 id
                  have y0 := b6.cell 0
                  have y4 := b6.cell 4
                  have y5 := b5.cell 0
                  have y6 := b5.cell 1
                  unfold confC at y0 y4
                  simp only [List.getElem?_toArray, List.getElem?_cons_zero, List.getElem?_cons_succ] at y0 y4 y5 y6
                  have K5 := Lib.hid k5
                  have B5 := Lib.hid b5
                  have B6 := Lib.hid b6
                  clear k5 b5 b6
                  cases hw : withinB pp 0 ((c.labels.length : Int) - 1) with
                  | false =>
                    have E := Lib.hid (E1.out (by rw [HPE.out]; simp only; rw [hw, if_neg (by decide)]; decide))
                    have HPF := Lib.hid (show pe = 2 by rw [HPE.out]; simp only; rw [hw]; rfl)
                    have HWI2 := Lib.hid (HWI.out (wr.alloc (.cells #[.int .i64 pp, .slice A' pl.length c'] 37)))
                    rw [hw] at HWI2
                    go_wp2_with (go_at_call 44; refine HWI2.out.mono ?_; rintro e w' ⟨rfl, rfl⟩)
                    go_ret2
                    rw [E.out, HPF.out]
                    exact ⟨by simp [Array.getD], HNR.out.trans K5.out⟩
                  | true =>
                    have HWI2 := Lib.hid (HWI.out (wr.alloc (.cells #[.int .i64 pp, .slice A' pl.length c'] 37)))
                    have HCM2 := Lib.hid (HCM.out _ K5.out)
                    rw [hw] at HWI2
                    have hpf : pe = (may pl c.locks).1 := by rw [HPE.out]; simp only; rw [hw]; rfl
                    by_cases hm : (may pl c.locks).1 = 0
                    · have E3 := Lib.hid (E2.out (hpf.trans hm))
                      rw [hm] at HCM2
                      clear hm hpf
                      go_wp2_with (first | (go_at_call 44; refine HWI2.out.mono ?_; rintro e w' ⟨rfl, rfl⟩) | (go_at_call 45; refine HCM2.out.mono ?_; rintro e w9 ⟨rfl, hn9⟩; have HN9 := Lib.hid hn9; clear hn9))
                      go_roundw
                      case rel => exact ⟨i + 1, by omega, by go_num, (HNR.out.trans K5.out).trans HN9.out, B6.out.kept HN9.out id, E3⟩
                      case measure => simp [intOf]; omega
                    · have E := Lib.hid (E1.out (by rw [hpf]; exact hm))
                      have HPF := Lib.hid hpf
                      clear hpf
                      generalize (may pl c.locks).1 = me at *
                      have hm' : (me != 0) = true := by simpa using hm
                      clear hm
                      go_wp2_with (first | (go_at_call 44; refine HWI2.out.mono ?_; rintro e w' ⟨rfl, rfl⟩) | (go_at_call 45; refine HCM2.out.mono ?_; rintro e w9 ⟨rfl, hn9⟩; have HN9 := Lib.hid hn9; clear hn9))
                      go_ret2
                      rw [E.out, HPF.out]
                      exact ⟨by simp [Array.getD], (HNR.out.trans K5.out).trans HN9.out⟩
                · obtain rfl : i = c.procs.length := by omega
                  have E := Lib.hid (mayC_ok HG0.out HNO.out h4 (fun j hj => hpn.out j hj hj))
                  have HNR := Lib.hid hnr
                  clear hnr hbr h4
                  go_wp2_with fail
                  go_ret2
                  rw [E.out]
                  exact ⟨by simp [Array.getD], HNR.out⟩
            · have E := Lib.hid (mayC_many HG0.out hno.out h4)
              have h4' : (manyE c.procs.length 32 != 0) = true := by simpa using h4
              generalize manyE c.procs.length 32 = e2 at *
              have HMT2 := Lib.hid hmt
              clear hmt
              clear h4
              go_wp2_with fail
              refine HMT2.out.mono ?_
              rintro e w' ⟨rfl, rfl⟩
              go_wp2_with fail
              go_ret2
              rw [E.out]
              exact ⟨by simp [Array.getD], HNR.out⟩
      · have h4 : (Slots.newE c.table c.labels.length).1 ≠ 0 := fun h => h3 (newE_ok h)
        have E := Lib.hid (show mayC c = ((Slots.newE c.table c.labels.length).1, 1) by unfold mayC; rw [if_neg (fun h => h h1), if_neg (fun h => h h2), if_pos h4])
        clear h3
        generalize Slots.newE c.table c.labels.length = ne at *
        obtain ⟨e2, p2⟩ := ne
        go_wp2_with fail
        go_ret2
        rw [E.out]
        exact ⟨by simp [Array.getD], HN3.out⟩
    · have E := Lib.hid (show mayC c = (manyE c.table.length 64, 1) by unfold mayC; rw [if_neg (fun h => h h1), if_pos h2])
      generalize manyE c.table.length 64 = e2 at *
      have HMT2 := Lib.hid hmt
      clear hmt
      go_wp2_with fail
      refine HMT2.out.mono ?_
      rintro e w' ⟨rfl, rfl⟩
      go_wp2_with fail
      go_ret2
      rw [E.out]
      exact ⟨by simp [Array.getD], HN2.out⟩
  · have E := Lib.hid (show mayC c = ((labE c.labels).1, 0) by unfold mayC; rw [if_pos h1])
    generalize (labE c.labels).1 = e1 at *
    go_wp2_with fail
    go_ret2
    rw [E.out]
    exact ⟨by simp [Array.getD], HN2.out⟩
end
end Go.Proofs.Ytaefgljpdpigeaa.Conf
