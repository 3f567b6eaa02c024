/- The walk of CpuSteps (layer 13). -/
import Derived.Test.YtilioiebecpknaaCpuX
import Derived.Test.YtilioiebecpknaaXO
import Derived.Test.YtilioiebecpknaaCpuA
import Derived.Test.YtilioiebecpknaaKR
import Derived.Deep.QuietTactic
import Derived.BigQuiet
namespace Go.Proofs.Ytilioiebecpknaa.CpuR
open Go.RowKit Go.Fb Go.BytesP Go.CodeP Go.CpuP _root_.Go.Proofs.Ytilioiebecpknaa.Code _root_.Go.Proofs.Ytilioiebecpknaa.Cpu
set_option linter.unusedVariables false
theorem laidC_in {g : Nat → Prop} {w W : World} {x : Nat} {d : Core} (h : Kept g w W) (hx : g x) : Kept g w (laidC W x d) :=
  ((((((((h.setCell (p := ⟨x, 0, none⟩) (.inr hx) _).setCell (p := ⟨x, 1, none⟩) (.inr hx) _).setCell (p := ⟨x, 2, none⟩) (.inr hx) _).setCell (p := ⟨x, 3, none⟩) (.inr hx) _).setCell (p := ⟨x, 4, none⟩) (.inr hx) _).setCell (p := ⟨x, 5, none⟩) (.inr hx) _).setCell (p := ⟨x, 6, none⟩) (.inr hx) _).setCell (p := ⟨x, 7, none⟩) (.inr hx) _).setCell (p := ⟨x, 8, none⟩) (.inr hx) _
set_option maxHeartbeats 8000000 in
set_option maxRecDepth 100000 in
theorem big_walk (c : Core) (A : Option Addr) (n k : Nat) (l : List Ins) (tick self reply from_ : Int) (w : World) (hl : SliceOf repIns w w.heap.size A n k l) (hc0 : In8 c) (ht : R64 tick) (hs : R64 self) (hsm : 65536 < n) :
    Calls Try.prog 5 #[coreV c, .slice A n k, .int .i64 tick, .int .i64 self, .int .i64 reply, .int .i64 from_] w fun e w' => e = .returned (.bool true) ∧ New w w' := by
  have hwf := ins_wf hl
  have himm : ∀ x ∈ l, R64 x.imm := fun x hx => wf_bd (hwf x hx)
  have hbd := hl.bound
  have hln := hl.len
  have hb0 : ∀ W, New (w.alloc (.cells (coreC c) 25)) W → Blk W w.heap.size 25 (coreC c) := fun W h => (Blk.made _ _ _).kept h id
  have haw := awake_any (w.alloc (.cells (coreC c) 25))
  have hz := size1 w (.cells (coreC c) 25)
  have hsel : 65536 < n := hsm
  have HC0 := Lib.hid hc0
  clear hc0
  obtain ⟨pc, r0, r1, r2, r3, r4, r5, r6, r7⟩ := c
  unfold coreC at haw hz
  unfold coreV coreC
  simp only at haw hz ⊢
  have dec1 : decide ((n : Int) ≤ 65536) = false := by rw [decide_eq_false_iff_not]; omega
  have dec2 : decide (n ≤ 65536) = false := by rw [decide_eq_false_iff_not]; omega
  have dec3 : decide (65536 < (n : Int)) = true := by rw [decide_eq_true_eq]; omega
  have dec4 : decide (65536 < n) = true := by rw [decide_eq_true_eq]; omega
  have HL := Lib.hid hl
  have HLN := Lib.hid hln
  have HWF := Lib.hid hwf
  have HIMM := Lib.hid himm
  have HB0 := Lib.hid hb0
  have HAW := Lib.hid haw
  have HZ := Lib.hid hz
  have HTK := Lib.hid ht
  have HSF := Lib.hid hs
  have HSM := Lib.hid hsm
  clear hl hln hwf himm hb0 haw hz ht hs hsm
  go_enter Try.func5, Try.ntmps5
  go_wp2_with fail
  refine HAW.out.mono ?_
  rintro e w3 ⟨rfl, hw1⟩
  have hn1 : New w w3 := ((Kept.refl _ _).alloc _).trans hw1
  have HNEW := Lib.hid (show ∀ W, Kept (fun x => x = w.heap.size) w3 W → New w W from fun W h => hn1.step h fun i hi e => by omega)
  have HCODE := Lib.hid (show ∀ W, Kept (fun x => x = w.heap.size) w3 W → SliceOf repIns W W.heap.size A n k l from fun W h => news HL.out (HNEW.out W h))
  have HOWN := Lib.hid (show ∀ W, Kept (fun x => x = w.heap.size) w3 W → True ∧ SliceOf repIns W W.heap.size A n k l from fun W h => ⟨trivial, HCODE.out W h⟩)
  have hbx := HB0.out w3 hw1
  clear hn1 hw1
  have HBX := Lib.hid hbx
  clear hbx
  go_upto_region 6 with (fail)
  go_wp2_with fail
  go_loopw [14] (fun s14 wr => ∃ (i : Nat) (c : Core), s14 = .int .i64 (i : Int) ∧ i ≤ 300 ∧ Kept (fun x => x = w.heap.size) w3 wr ∧ Blk wr w.heap.size 25 (coreC c) ∧ Hid (In8 c)) (fun s _ => (300 - intOf s).toNat)
  case atStart => exact ⟨0, ⟨pc, r0, r1, r2, r3, r4, r5, r6, r7⟩, rfl, by omega, Kept.refl _ _, HBX.out, HC0⟩
  case round =>
    obtain ⟨i, cc, rfl, hi, hkw, hbw, hin⟩ := hrel
    have HIN := hin
    clear hin
    by_cases hlt : i < 300
    · have hdec : decide ((i : Int) < 300) = true := by rw [decide_eq_true_eq]; omega
      have hnx := step_in8 (tick := tick) (self := self) HIN.out HIMM.out HTK.out HSF.out
      have hst := step_exact cc A n k l tick self wr (HOWN.out wr hkw).2
      have hrst := fun V (h : New wr V) => rstep_any cc A n k l tick self V (HCODE.out V (hkw.trans (h.mono fun _ _ x => x.elim))) HIN.out.all
      have htd := fun V (h : New wr V) => told_any cc A n k l reply V (HOWN.out V (hkw.trans (h.mono fun _ _ x => x.elim))).2
      have htk := fun V (h : New wr V) => took_any cc A n k l reply from_ V (HOWN.out V (hkw.trans (h.mono fun _ _ x => x.elim))).2
      have hrtd := fun V (h : New wr V) => rtold_any cc A n k l reply V (HCODE.out V (hkw.trans (h.mono fun _ _ x => x.elim)))
      have hrtk := fun V (h : New wr V) => rtook_any cc A n k l reply from_ V (HCODE.out V (hkw.trans (h.mono fun _ _ x => x.elim)))
      have hnc := fun V => next_any cc V
      have hrn := fun V => rnext_any cc V
      change Calls _ _ _ _ fun e w' => e = .returned (.tuple #[coreV (stepX cc l tick self).1, wantV (stepX cc l tick self).2]) ∧ New wr w' at hst
      generalize stepX cc l tick self = st at *
      generalize toldC cc l reply = tl at *
      generalize tookC cc l reply from_ = tk at *
      obtain ⟨nc, hnce⟩ : ∃ nc, cc.next = nc := ⟨_, rfl⟩
      rw [hnce] at hnc hrn
      clear hnce
      obtain ⟨bpc, b0, b1, b2, b3, b4, b5, b6, b7⟩ := cc
      obtain ⟨⟨dpc, s0, s1, s2, s3, s4, s5, s6, s7⟩, ⟨kd, to, vl⟩⟩ := st
      obtain ⟨epc, t0, t1, t2, t3, t4, t5, t6, t7⟩ := tl
      obtain ⟨fpc, v0, v1, v2, v3, v4, v5, v6, v7⟩ := tk
      obtain ⟨npc, x0, x1, x2, x3, x4, x5, x6, x7⟩ := nc
      have hou := fun (c : Core) V => ours_any c V
      have hsame := fun (c : Core) (t : Want) V => same_any c t V
      have hou0 := fun V => hou ⟨bpc, b0, b1, b2, b3, b4, b5, b6, b7⟩ V
      have hou1 := fun V => hou ⟨epc, t0, t1, t2, t3, t4, t5, t6, t7⟩ V
      have hou2 := fun V => hou ⟨fpc, v0, v1, v2, v3, v4, v5, v6, v7⟩ V
      have hou3 := fun V => hou ⟨npc, x0, x1, x2, x3, x4, x5, x6, x7⟩ V
      have hsm1 := fun V => hsame ⟨dpc, s0, s1, s2, s3, s4, s5, s6, s7⟩ ⟨kd, to, vl⟩ V
      have hq1 := fun V => (show (Op.equalIn 9999 23 (.agg #[.int .i64 t0, .int .i64 t1, .int .i64 t2, .int .i64 t3, .int .i64 t4, .int .i64 t5, .int .i64 t6, .int .i64 t7]) (.agg #[.int .i64 t0, .int .i64 t1, .int .i64 t2, .int .i64 t3, .int .i64 t4, .int .i64 t5, .int .i64 t6, .int .i64 t7])).run Try.prog V = .ok true V from eq_regs 9997 t0 t1 t2 t3 t4 t5 t6 t7 V)
      have hq2 := fun V => (show (Op.equalIn 9999 23 (.agg #[.int .i64 v0, .int .i64 v1, .int .i64 v2, .int .i64 v3, .int .i64 v4, .int .i64 v5, .int .i64 v6, .int .i64 v7]) (.agg #[.int .i64 v0, .int .i64 v1, .int .i64 v2, .int .i64 v3, .int .i64 v4, .int .i64 v5, .int .i64 v6, .int .i64 v7])).run Try.prog V = .ok true V from eq_regs 9997 v0 v1 v2 v3 v4 v5 v6 v7 V)
      have hq3 := fun V => (show (Op.equalIn 9999 23 (.agg #[.int .i64 x0, .int .i64 x1, .int .i64 x2, .int .i64 x3, .int .i64 x4, .int .i64 x5, .int .i64 x6, .int .i64 x7]) (.agg #[.int .i64 x0, .int .i64 x1, .int .i64 x2, .int .i64 x3, .int .i64 x4, .int .i64 x5, .int .i64 x6, .int .i64 x7])).run Try.prog V = .ok true V from eq_regs 9997 x0 x1 x2 x3 x4 x5 x6 x7 V)
      clear hou hsame
      unfold coreV coreC at hst hrst htd htk hrtd hrtk hnc hrn hou0 hou1 hou2 hou3 hsm1
      unfold wantV at hst hrst hsm1
      simp only at hst hrst htd htk hrtd hrtk hnc hrn hou0 hou1 hou2 hou3 hsm1 hnx
      have HBW := Lib.hid (show ∀ V, New wr V → Blk V w.heap.size 25 (coreC ⟨bpc, b0, b1, b2, b3, b4, b5, b6, b7⟩) from fun V h => hbw.kept h id)
      obtain ⟨d0, d1, d2, d3, d4, d5, d6, d7, d8⟩ := Blk.core hbw
      have hbl := hbw.lt
      have HNX := Lib.hid hnx
      have HST := Lib.hid hst
      have HRST := Lib.hid hrst
      have HTD := Lib.hid htd
      have HTK_ := Lib.hid htk
      have HRTD := Lib.hid hrtd
      have HRTK := Lib.hid hrtk
      have HNC := Lib.hid hnc
      have HRN := Lib.hid hrn
      have HOU0 := Lib.hid hou0
      have HOU1 := Lib.hid hou1
      have HOU2 := Lib.hid hou2
      have HOU3 := Lib.hid hou3
      have HSM1 := Lib.hid hsm1
      have HKW := Lib.hid hkw
      clear hnx hst hrst htd htk hrtd hrtk hnc hrn hou0 hou1 hou2 hou3 hsm1 hkw
      clear hbw
      go_wp2_with fail
      refine HST.out.mono ?_
      rintro e w4 ⟨rfl, hn4⟩
      have hz4 := hn4.size
      have HN4 := Lib.hid hn4
      clear hn4
      go_upto_region 10 with (fail)
      have b15 : Blk ((w4.alloc (.cells #[.int .i64 dpc, .int .i64 s0, .int .i64 s1, .int .i64 s2, .int .i64 s3, .int .i64 s4, .int .i64 s5, .int .i64 s6, .int .i64 s7] 25)).alloc (.cells #[.int .i64 kd, .int .i64 to, .int .i64 vl] 28)) w4.heap.size 25 (coreC ⟨dpc, s0, s1, s2, s3, s4, s5, s6, s7⟩) := (Blk.made _ _ _).alloc _
      have b16 : Blk ((w4.alloc (.cells #[.int .i64 dpc, .int .i64 s0, .int .i64 s1, .int .i64 s2, .int .i64 s3, .int .i64 s4, .int .i64 s5, .int .i64 s6, .int .i64 s7] 25)).alloc (.cells #[.int .i64 kd, .int .i64 to, .int .i64 vl] 28)) (w4.heap.size + 1) 28 (wantC ⟨kd, to, vl⟩) := Blk.made_at _ _ _ _ (size1 _ _)
      have hn5 : New wr ((w4.alloc (.cells #[.int .i64 dpc, .int .i64 s0, .int .i64 s1, .int .i64 s2, .int .i64 s3, .int .i64 s4, .int .i64 s5, .int .i64 s6, .int .i64 s7] 25)).alloc (.cells #[.int .i64 kd, .int .i64 to, .int .i64 vl] 28)) := (HN4.out.alloc _).alloc _
      generalize (w4.alloc (.cells #[.int .i64 dpc, .int .i64 s0, .int .i64 s1, .int .i64 s2, .int .i64 s3, .int .i64 s4, .int .i64 s5, .int .i64 s6, .int .i64 s7] 25)).alloc (.cells #[.int .i64 kd, .int .i64 to, .int .i64 vl] 28) = w5 at *
      generalize hp15 : w4.heap.size = p15 at *
      clear d0 d1 d2 d3 d4 d5 d6 d7 d8 HST
      obtain ⟨d0, d1, d2, d3, d4, d5, d6, d7, d8⟩ := Blk.core (HBW.out w5 hn5)
      have B15 := Lib.hid b15
      have B16 := Lib.hid b16
      have HN5 := Lib.hid hn5
      have HP15 := Lib.hid hp15
      clear b15 b16 hn5 hp15
      go_wp2_with fail
      refine (HOU0.out w5).mono ?_
      rintro e w6 ⟨rfl, hn6⟩
      have hn56 := HN5.out.trans hn6
      have HN6 := Lib.hid hn6
      have HN56 := Lib.hid hn56
      clear hn6 hn56
      go_wp2_with fail
      refine (HRST.out w6 HN56.out).mono ?_
      rintro e w7 ⟨rfl, hn7⟩
      have hz7 := hn7.size
      have hn57 := HN56.out.trans hn7
      have hn77 := HN6.out.trans hn7
      have HN7 := Lib.hid hn7
      have HN57 := Lib.hid hn57
      have HN77 := Lib.hid hn77
      clear hn7 hn57 hn77
      go_upto_region 11 with (fail)
      have b17 : Blk ((w7.alloc (.cells #[.int .i64 dpc, .int .i64 s0, .int .i64 s1, .int .i64 s2, .int .i64 s3, .int .i64 s4, .int .i64 s5, .int .i64 s6, .int .i64 s7] 34)).alloc (.cells #[.int .i64 kd, .int .i64 to, .int .i64 vl] 35)) w7.heap.size 34 (coreC ⟨dpc, s0, s1, s2, s3, s4, s5, s6, s7⟩) := (Blk.made _ _ _).alloc _
      have b18 : Blk ((w7.alloc (.cells #[.int .i64 dpc, .int .i64 s0, .int .i64 s1, .int .i64 s2, .int .i64 s3, .int .i64 s4, .int .i64 s5, .int .i64 s6, .int .i64 s7] 34)).alloc (.cells #[.int .i64 kd, .int .i64 to, .int .i64 vl] 35)) (w7.heap.size + 1) 35 (wantC ⟨kd, to, vl⟩) := Blk.made_at _ _ _ _ (size1 _ _)
      have hn8 : New w7 ((w7.alloc (.cells #[.int .i64 dpc, .int .i64 s0, .int .i64 s1, .int .i64 s2, .int .i64 s3, .int .i64 s4, .int .i64 s5, .int .i64 s6, .int .i64 s7] 34)).alloc (.cells #[.int .i64 kd, .int .i64 to, .int .i64 vl] 35)) := ((Kept.refl _ _).alloc _).alloc _
      generalize (w7.alloc (.cells #[.int .i64 dpc, .int .i64 s0, .int .i64 s1, .int .i64 s2, .int .i64 s3, .int .i64 s4, .int .i64 s5, .int .i64 s6, .int .i64 s7] 34)).alloc (.cells #[.int .i64 kd, .int .i64 to, .int .i64 vl] 35) = w8 at *
      have hn58 := HN57.out.trans hn8
      have hn78 := HN77.out.trans hn8
      generalize w7.heap.size = p17 at *
      clear d0 d1 d2 d3 d4 d5 d6 d7 d8 HRST
      obtain ⟨d0, d1, d2, d3, d4, d5, d6, d7, d8⟩ := Blk.core (HBW.out w8 hn58)
      have B17 := Lib.hid b17
      have B18 := Lib.hid b18
      have HN58 := Lib.hid hn58
      have HN8 := Lib.hid hn8
      have HN78 := Lib.hid hn78
      clear b17 b18 hn58 hn8 hn78
      go_wp2_with fail
      refine (HOU0.out w8).mono ?_
      rintro e w9 ⟨rfl, hn9⟩
      have hn59 := HN58.out.trans hn9
      have HN9 := Lib.hid hn9
      have HN59 := Lib.hid hn59
      clear hn9 hn59
      go_wp2_with fail
      refine (HRTD.out w9 HN59.out).mono ?_
      rintro e w10 ⟨rfl, hn10⟩
      have hz10 := hn10.size
      have hn510 := HN59.out.trans hn10
      have hn810 := HN9.out.trans hn10
      have HN10 := Lib.hid hn10
      have HN510 := Lib.hid hn510
      have HN810 := Lib.hid hn810
      clear hn10 hn510 hn810
      go_upto_region 12 with (fail)
      have b19 : Blk (w10.alloc (.cells #[.int .i64 epc, .int .i64 t0, .int .i64 t1, .int .i64 t2, .int .i64 t3, .int .i64 t4, .int .i64 t5, .int .i64 t6, .int .i64 t7] 34)) w10.heap.size 34 (coreC ⟨epc, t0, t1, t2, t3, t4, t5, t6, t7⟩) := Blk.made _ _ _
      have hn11 : New w8 (w10.alloc (.cells #[.int .i64 epc, .int .i64 t0, .int .i64 t1, .int .i64 t2, .int .i64 t3, .int .i64 t4, .int .i64 t5, .int .i64 t6, .int .i64 t7] 34)) := HN810.out.alloc _
      have hn511 : New wr (w10.alloc (.cells #[.int .i64 epc, .int .i64 t0, .int .i64 t1, .int .i64 t2, .int .i64 t3, .int .i64 t4, .int .i64 t5, .int .i64 t6, .int .i64 t7] 34)) := HN510.out.alloc _
      generalize w10.alloc (.cells #[.int .i64 epc, .int .i64 t0, .int .i64 t1, .int .i64 t2, .int .i64 t3, .int .i64 t4, .int .i64 t5, .int .i64 t6, .int .i64 t7] 34) = w11 at *
      generalize w10.heap.size = p19 at *
      clear d0 d1 d2 d3 d4 d5 d6 d7 d8 HRTD
      obtain ⟨d0, d1, d2, d3, d4, d5, d6, d7, d8⟩ := Blk.core (HBW.out w11 hn511)
      have B19 := Lib.hid b19
      have HN11 := Lib.hid hn11
      have HN511 := Lib.hid hn511
      clear b19 hn11 hn511
      go_wp2_with fail
      refine (HOU0.out w11).mono ?_
      rintro e w12 ⟨rfl, hn12⟩
      have hn512 := HN511.out.trans hn12
      have HN12 := Lib.hid hn12
      have HN512 := Lib.hid hn512
      clear hn12 hn512
      go_wp2_with fail
      refine (HRTK.out w12 HN512.out).mono ?_
      rintro e w13 ⟨rfl, hn13⟩
      have hn513 := HN512.out.trans hn13
      have hn1113 := HN12.out.trans hn13
      have HN13 := Lib.hid hn13
      have HN513 := Lib.hid hn513
      have HN1113 := Lib.hid hn1113
      clear hn13 hn513 hn1113
      go_upto_region 13 with (fail)
      have b20 : Blk (w13.alloc (.cells #[.int .i64 fpc, .int .i64 v0, .int .i64 v1, .int .i64 v2, .int .i64 v3, .int .i64 v4, .int .i64 v5, .int .i64 v6, .int .i64 v7] 34)) w13.heap.size 34 (coreC ⟨fpc, v0, v1, v2, v3, v4, v5, v6, v7⟩) := Blk.made _ _ _
      have hn14 : New w11 (w13.alloc (.cells #[.int .i64 fpc, .int .i64 v0, .int .i64 v1, .int .i64 v2, .int .i64 v3, .int .i64 v4, .int .i64 v5, .int .i64 v6, .int .i64 v7] 34)) := HN1113.out.alloc _
      have hn514 : New wr (w13.alloc (.cells #[.int .i64 fpc, .int .i64 v0, .int .i64 v1, .int .i64 v2, .int .i64 v3, .int .i64 v4, .int .i64 v5, .int .i64 v6, .int .i64 v7] 34)) := HN513.out.alloc _
      generalize w13.alloc (.cells #[.int .i64 fpc, .int .i64 v0, .int .i64 v1, .int .i64 v2, .int .i64 v3, .int .i64 v4, .int .i64 v5, .int .i64 v6, .int .i64 v7] 34) = wz at *
      generalize w13.heap.size = p20 at *
      clear d0 d1 d2 d3 d4 d5 d6 d7 d8 HRTK
      have hn8z := HN11.out.trans hn14
      have hn5z := HN78.out.trans hn8z
      have HS := Lib.hid (show ∀ V, New wz V → (V.cell? ⟨w.heap.size, 0, none⟩ = some (.int .i64 bpc) ∧ V.cell? ⟨w.heap.size, 1, none⟩ = some (.int .i64 b0) ∧ V.cell? ⟨w.heap.size, 2, none⟩ = some (.int .i64 b1) ∧ V.cell? ⟨w.heap.size, 3, none⟩ = some (.int .i64 b2) ∧ V.cell? ⟨w.heap.size, 4, none⟩ = some (.int .i64 b3) ∧ V.cell? ⟨w.heap.size, 5, none⟩ = some (.int .i64 b4) ∧ V.cell? ⟨w.heap.size, 6, none⟩ = some (.int .i64 b5) ∧ V.cell? ⟨w.heap.size, 7, none⟩ = some (.int .i64 b6) ∧ V.cell? ⟨w.heap.size, 8, none⟩ = some (.int .i64 b7) ∧ V.cell? ⟨p15, 0, none⟩ = some (.int .i64 dpc) ∧ V.cell? ⟨p15, 1, none⟩ = some (.int .i64 s0) ∧ V.cell? ⟨p15, 2, none⟩ = some (.int .i64 s1) ∧ V.cell? ⟨p15, 3, none⟩ = some (.int .i64 s2) ∧ V.cell? ⟨p15, 4, none⟩ = some (.int .i64 s3) ∧ V.cell? ⟨p15, 5, none⟩ = some (.int .i64 s4) ∧ V.cell? ⟨p15, 6, none⟩ = some (.int .i64 s5) ∧ V.cell? ⟨p15, 7, none⟩ = some (.int .i64 s6) ∧ V.cell? ⟨p15, 8, none⟩ = some (.int .i64 s7) ∧ V.cell? ⟨p15 + 1, 0, none⟩ = some (.int .i64 kd) ∧ V.cell? ⟨p15 + 1, 1, none⟩ = some (.int .i64 to) ∧ V.cell? ⟨p15 + 1, 2, none⟩ = some (.int .i64 vl) ∧ V.cell? ⟨p17, 0, none⟩ = some (.int .i64 dpc) ∧ V.cell? ⟨p17, 1, none⟩ = some (.int .i64 s0) ∧ V.cell? ⟨p17, 2, none⟩ = some (.int .i64 s1) ∧ V.cell? ⟨p17, 3, none⟩ = some (.int .i64 s2) ∧ V.cell? ⟨p17, 4, none⟩ = some (.int .i64 s3) ∧ V.cell? ⟨p17, 5, none⟩ = some (.int .i64 s4) ∧ V.cell? ⟨p17, 6, none⟩ = some (.int .i64 s5) ∧ V.cell? ⟨p17, 7, none⟩ = some (.int .i64 s6) ∧ V.cell? ⟨p17, 8, none⟩ = some (.int .i64 s7) ∧ V.cell? ⟨p17 + 1, 0, none⟩ = some (.int .i64 kd) ∧ V.cell? ⟨p17 + 1, 1, none⟩ = some (.int .i64 to) ∧ V.cell? ⟨p17 + 1, 2, none⟩ = some (.int .i64 vl) ∧ V.cell? ⟨p19, 0, none⟩ = some (.int .i64 epc) ∧ V.cell? ⟨p19, 1, none⟩ = some (.int .i64 t0) ∧ V.cell? ⟨p19, 2, none⟩ = some (.int .i64 t1) ∧ V.cell? ⟨p19, 3, none⟩ = some (.int .i64 t2) ∧ V.cell? ⟨p19, 4, none⟩ = some (.int .i64 t3) ∧ V.cell? ⟨p19, 5, none⟩ = some (.int .i64 t4) ∧ V.cell? ⟨p19, 6, none⟩ = some (.int .i64 t5) ∧ V.cell? ⟨p19, 7, none⟩ = some (.int .i64 t6) ∧ V.cell? ⟨p19, 8, none⟩ = some (.int .i64 t7) ∧ V.cell? ⟨p20, 0, none⟩ = some (.int .i64 fpc) ∧ V.cell? ⟨p20, 1, none⟩ = some (.int .i64 v0) ∧ V.cell? ⟨p20, 2, none⟩ = some (.int .i64 v1) ∧ V.cell? ⟨p20, 3, none⟩ = some (.int .i64 v2) ∧ V.cell? ⟨p20, 4, none⟩ = some (.int .i64 v3) ∧ V.cell? ⟨p20, 5, none⟩ = some (.int .i64 v4) ∧ V.cell? ⟨p20, 6, none⟩ = some (.int .i64 v5) ∧ V.cell? ⟨p20, 7, none⟩ = some (.int .i64 v6) ∧ V.cell? ⟨p20, 8, none⟩ = some (.int .i64 v7)) from fun V h =>
        have g6 := HBW.out V (hn514.trans h)
        have g15 := B15.out.kept (hn5z.trans h) id
        have g16 := B16.out.kept (hn5z.trans h) id
        have g17 := B17.out.kept (hn8z.trans h) id
        have g18 := B18.out.kept (hn8z.trans h) id
        have g19 := B19.out.kept (hn14.trans h) id
        have g20 := b20.kept h id
        ⟨g6.cell 0, g6.cell 1, g6.cell 2, g6.cell 3, g6.cell 4, g6.cell 5, g6.cell 6, g6.cell 7, g6.cell 8, g15.cell 0, g15.cell 1, g15.cell 2, g15.cell 3, g15.cell 4, g15.cell 5, g15.cell 6, g15.cell 7, g15.cell 8, g16.cell 0, g16.cell 1, g16.cell 2, g17.cell 0, g17.cell 1, g17.cell 2, g17.cell 3, g17.cell 4, g17.cell 5, g17.cell 6, g17.cell 7, g17.cell 8, g18.cell 0, g18.cell 1, g18.cell 2, g19.cell 0, g19.cell 1, g19.cell 2, g19.cell 3, g19.cell 4, g19.cell 5, g19.cell 6, g19.cell 7, g19.cell 8, g20.cell 0, g20.cell 1, g20.cell 2, g20.cell 3, g20.cell 4, g20.cell 5, g20.cell 6, g20.cell 7, g20.cell 8⟩)
      have HC1 := Lib.hid (fun V (h : New wz V) => (HSM1.out V).mono fun e w' g => (⟨g.1, h.trans g.2⟩ : _ ∧ New wz w'))
      have HC2 := Lib.hid (fun V (h : New wz V) => (HTD.out V (hn514.trans h)).mono fun e w' g => (⟨g.1, h.trans g.2⟩ : _ ∧ New wz w'))
      have HC3 := Lib.hid (fun V (h : New wz V) => (HOU1.out V).mono fun e w' g => (⟨g.1, h.trans g.2⟩ : _ ∧ New wz w'))
      have HC4 := Lib.hid (fun V (h : New wz V) => (HTK_.out V (hn514.trans h)).mono fun e w' g => (⟨g.1, h.trans g.2⟩ : _ ∧ New wz w'))
      have HC5 := Lib.hid (fun V (h : New wz V) => (HOU2.out V).mono fun e w' g => (⟨g.1, h.trans g.2⟩ : _ ∧ New wz w'))
      have HC6 := Lib.hid (fun V (h : New wz V) => (HNC.out V).mono fun e w' g => (⟨g.1, h.trans g.2⟩ : _ ∧ New wz w'))
      have HC7 := Lib.hid (fun V (h : New wz V) => (HOU3.out V).mono fun e w' g => (⟨g.1, h.trans g.2⟩ : _ ∧ New wz w'))
      have HC8 := Lib.hid (fun V (h : New wz V) => (HOU0.out V).mono fun e w' g => (⟨g.1, h.trans g.2⟩ : _ ∧ New wz w'))
      have HC9 := Lib.hid (fun V (h : New wz V) => (HRN.out V).mono fun e w' g => (⟨g.1, h.trans g.2⟩ : _ ∧ New wz w'))
      have HB15 := Lib.hid (fun V (h : New wz V) => B15.out.kept (hn5z.trans h) id)
      have HB16 := Lib.hid (fun V (h : New wz V) => B16.out.kept (hn5z.trans h) id)
      have HNZ := Lib.hid hn514
      clear hn14 hn514 hn8z hn5z b20 HTD HTK_
      go_region_held3 (fun V => V.cell? ⟨w.heap.size, 0, none⟩ = some (.int .i64 bpc) ∧ V.cell? ⟨w.heap.size, 1, none⟩ = some (.int .i64 b0) ∧ V.cell? ⟨w.heap.size, 2, none⟩ = some (.int .i64 b1) ∧ V.cell? ⟨w.heap.size, 3, none⟩ = some (.int .i64 b2) ∧ V.cell? ⟨w.heap.size, 4, none⟩ = some (.int .i64 b3) ∧ V.cell? ⟨w.heap.size, 5, none⟩ = some (.int .i64 b4) ∧ V.cell? ⟨w.heap.size, 6, none⟩ = some (.int .i64 b5) ∧ V.cell? ⟨w.heap.size, 7, none⟩ = some (.int .i64 b6) ∧ V.cell? ⟨w.heap.size, 8, none⟩ = some (.int .i64 b7) ∧ V.cell? ⟨p15, 0, none⟩ = some (.int .i64 dpc) ∧ V.cell? ⟨p15, 1, none⟩ = some (.int .i64 s0) ∧ V.cell? ⟨p15, 2, none⟩ = some (.int .i64 s1) ∧ V.cell? ⟨p15, 3, none⟩ = some (.int .i64 s2) ∧ V.cell? ⟨p15, 4, none⟩ = some (.int .i64 s3) ∧ V.cell? ⟨p15, 5, none⟩ = some (.int .i64 s4) ∧ V.cell? ⟨p15, 6, none⟩ = some (.int .i64 s5) ∧ V.cell? ⟨p15, 7, none⟩ = some (.int .i64 s6) ∧ V.cell? ⟨p15, 8, none⟩ = some (.int .i64 s7) ∧ V.cell? ⟨p15 + 1, 0, none⟩ = some (.int .i64 kd) ∧ V.cell? ⟨p15 + 1, 1, none⟩ = some (.int .i64 to) ∧ V.cell? ⟨p15 + 1, 2, none⟩ = some (.int .i64 vl) ∧ V.cell? ⟨p17, 0, none⟩ = some (.int .i64 dpc) ∧ V.cell? ⟨p17, 1, none⟩ = some (.int .i64 s0) ∧ V.cell? ⟨p17, 2, none⟩ = some (.int .i64 s1) ∧ V.cell? ⟨p17, 3, none⟩ = some (.int .i64 s2) ∧ V.cell? ⟨p17, 4, none⟩ = some (.int .i64 s3) ∧ V.cell? ⟨p17, 5, none⟩ = some (.int .i64 s4) ∧ V.cell? ⟨p17, 6, none⟩ = some (.int .i64 s5) ∧ V.cell? ⟨p17, 7, none⟩ = some (.int .i64 s6) ∧ V.cell? ⟨p17, 8, none⟩ = some (.int .i64 s7) ∧ V.cell? ⟨p17 + 1, 0, none⟩ = some (.int .i64 kd) ∧ V.cell? ⟨p17 + 1, 1, none⟩ = some (.int .i64 to) ∧ V.cell? ⟨p17 + 1, 2, none⟩ = some (.int .i64 vl) ∧ V.cell? ⟨p19, 0, none⟩ = some (.int .i64 epc) ∧ V.cell? ⟨p19, 1, none⟩ = some (.int .i64 t0) ∧ V.cell? ⟨p19, 2, none⟩ = some (.int .i64 t1) ∧ V.cell? ⟨p19, 3, none⟩ = some (.int .i64 t2) ∧ V.cell? ⟨p19, 4, none⟩ = some (.int .i64 t3) ∧ V.cell? ⟨p19, 5, none⟩ = some (.int .i64 t4) ∧ V.cell? ⟨p19, 6, none⟩ = some (.int .i64 t5) ∧ V.cell? ⟨p19, 7, none⟩ = some (.int .i64 t6) ∧ V.cell? ⟨p19, 8, none⟩ = some (.int .i64 t7) ∧ V.cell? ⟨p20, 0, none⟩ = some (.int .i64 fpc) ∧ V.cell? ⟨p20, 1, none⟩ = some (.int .i64 v0) ∧ V.cell? ⟨p20, 2, none⟩ = some (.int .i64 v1) ∧ V.cell? ⟨p20, 3, none⟩ = some (.int .i64 v2) ∧ V.cell? ⟨p20, 4, none⟩ = some (.int .i64 v3) ∧ V.cell? ⟨p20, 5, none⟩ = some (.int .i64 v4) ∧ V.cell? ⟨p20, 6, none⟩ = some (.int .i64 v5) ∧ V.cell? ⟨p20, 7, none⟩ = some (.int .i64 v6) ∧ V.cell? ⟨p20, 8, none⟩ = some (.int .i64 v7)) (first | ((with_reducible refine HS.out _ ?_); with_reducible assumption) | (with_reducible exact HS.out _ (Kept.refl _ _).drew)) (first | (go_at_call 12; (with_reducible refine (HC1.out _ ?_).mono ?_); (with_reducible first | assumption | exact (Kept.refl _ _).drew); rintro e wv ⟨rfl, hv⟩) | (go_at_call 13; (with_reducible refine (HC2.out _ ?_).mono ?_); (with_reducible first | assumption | exact (Kept.refl _ _).drew); rintro e wv ⟨rfl, hv⟩) | (go_at_call 9; (with_reducible refine (HC3.out _ ?_).mono ?_); (with_reducible first | assumption | exact (Kept.refl _ _).drew); rintro e wv ⟨rfl, hv⟩) | (go_at_call 14; (with_reducible refine (HC4.out _ ?_).mono ?_); (with_reducible first | assumption | exact (Kept.refl _ _).drew); rintro e wv ⟨rfl, hv⟩) | (go_at_call 9; (with_reducible refine (HC5.out _ ?_).mono ?_); (with_reducible first | assumption | exact (Kept.refl _ _).drew); rintro e wv ⟨rfl, hv⟩) | (go_at_call 15; (with_reducible refine (HC6.out _ ?_).mono ?_); (with_reducible first | assumption | exact (Kept.refl _ _).drew); rintro e wv ⟨rfl, hv⟩) | (go_at_call 9; (with_reducible refine (HC7.out _ ?_).mono ?_); (with_reducible first | assumption | exact (Kept.refl _ _).drew); rintro e wv ⟨rfl, hv⟩) | (go_at_call 9; (with_reducible refine (HC8.out _ ?_).mono ?_); (with_reducible first | assumption | exact (Kept.refl _ _).drew); rintro e wv ⟨rfl, hv⟩) | (go_at_call 16; (with_reducible refine (HC9.out _ ?_).mono ?_); (with_reducible first | assumption | exact (Kept.refl _ _).drew); rintro e wv ⟨rfl, hv⟩))
      have hkv : Kept (fun x => x = w.heap.size) w3 wv := HKW.out.trans ((HNZ.out.trans hv).mono fun _ _ x => x.elim)
      have hb6 := HBW.out wv (HNZ.out.trans hv)
      have hb15 := HB15.out wv hv
      have hb16 := HB16.out wv hv
      have k0 : wv.cell? ⟨p15 + 1, 0, none⟩ = some (.int .i64 kd) := hb16.cell 0
      clear hb16 hq1 hq2 hq3 HC1 HC2 HC3 HC4 HC5 HC6 HC7 HC8 HC9 HS HBW HOU0 HOU1 HOU2 HOU3 HSM1 HNC HRN
      have HKV := Lib.hid hkv
      have HB6 := Lib.hid hb6
      have HBD := Lib.hid hb15
      clear hkv hb6 hb15
      by_cases hk : kd = 0
      · subst hk
        obtain ⟨⟨y0, y1, y2, y3, y4, y5, y6, y7, y8⟩, ⟨d0, d1, d2, d3, d4, d5, d6, d7, d8⟩⟩ := (⟨Blk.core HBD.out, Blk.core HB6.out⟩ : _ ∧ _)
        have f6 := HB6.out.free
        go_wp2_with fail
        obtain ⟨wn, hwn⟩ : ∃ wn, wn = ((((((((wv.setCell ⟨w.heap.size, 0, none⟩ (.int .i64 dpc)).setCell ⟨w.heap.size, 1, none⟩ (.int .i64 s0)).setCell ⟨w.heap.size, 2, none⟩ (.int .i64 s1)).setCell ⟨w.heap.size, 3, none⟩ (.int .i64 s2)).setCell ⟨w.heap.size, 4, none⟩ (.int .i64 s3)).setCell ⟨w.heap.size, 5, none⟩ (.int .i64 s4)).setCell ⟨w.heap.size, 6, none⟩ (.int .i64 s5)).setCell ⟨w.heap.size, 7, none⟩ (.int .i64 s6)).setCell ⟨w.heap.size, 8, none⟩ (.int .i64 s7) := ⟨_, rfl⟩
        rw [← hwn]
        have hwl : wn = laidC wv w.heap.size ⟨dpc, s0, s1, s2, s3, s4, s5, s6, s7⟩ := hwn
        have HKN := Lib.hid (show Kept (fun x => x = w.heap.size) w3 wn from by rw [hwl]; exact laidC_in HKV.out rfl)
        have HBN := Lib.hid (show Blk wn w.heap.size 25 (coreC ⟨dpc, s0, s1, s2, s3, s4, s5, s6, s7⟩) from by rw [hwl]; exact laidC_blk HB6.out)
        clear hwn hwl y0 y1 y2 y3 y4 y5 y6 y7 y8 d0 d1 d2 d3 d4 d5 d6 d7 d8 f6 k0
        go_roundw
        case measure => (simp [intOf]; omega)
        case rel => exact ⟨i + 1, ⟨dpc, s0, s1, s2, s3, s4, s5, s6, s7⟩, by go_num, by omega, HKN.out, HBN.out, HNX⟩
      · have hkd : (kd == 0) = false := by simpa using hk
        have hkd2 : (kd != 0) = true := by simpa using hk
        clear hk
        go_wp2_with fail
        go_ret
        exact ⟨rfl, HNEW.out _ (HKV.out)⟩
    · obtain rfl : i = 300 := by omega
      have hdec : decide (((300 : Nat) : Int) < 300) = false := by decide
      have HKF := Lib.hid hkw
      clear hkw hbw HIN
      go_wp2_with fail
      go_ret
      exact ⟨rfl, HNEW.out _ (HKF.out)⟩
end Go.Proofs.Ytilioiebecpknaa.CpuR
