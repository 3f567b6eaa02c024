/- The walk of ViewKeeps (layer 18). -/
import Derived.Test.YtgdmajockejpgaaViewKa
import Derived.Test.YtgdmajockejpgaaViewSe
import Derived.Test.YtgdmajockejpgaaViewSf
import Derived.Test.YtgdmajockejpgaaViewSd
import Derived.Test.YtgdmajockejpgaaViewX
import Derived.Test.YtgdmajockejpgaaViewW
import Derived.Deep.RegionHeld3
import Derived.BigQuiet
import Derived.Deep.QuietTactic
namespace Go.Proofs.Ytgdmajockejpgaa.View
open Go.RowKit Go.Fb
set_option linter.unusedVariables false
set_option linter.unusedSimpArgs false
set_option maxHeartbeats 32000000 in
set_option maxRecDepth 100000 in
theorem keeps_walk {w : World} {c : Config} {s : State} {v0 v1 v2 v3 v4 v5 v6 s0 s1 s2 : Value} (h : repConf.cells w w.heap.size c [v0, v1, v2, v3, v4, v5, v6]) (hs : repState.cells w w.heap.size s [s0, s1, s2]) (hz : SmallS s) (a : Int) (hwa : wfU a) :
    Calls Try.prog 5 #[.agg #[v0, v1, v2, v3, v4, v5, v6], .agg #[s0, s1, s2], .int .u64 a] w fun e w' => e = .returned (.bool true) ∧ New w w' := by
  have HCF : Hid (∀ W, New w W → repConf.cells W W.heap.size c [v0, v1, v2, v3, v4, v5, v6]) := Lib.hid fun W hW => repConf.more hW.size (repConf.stays (fun p hp => hW.cell hp id) h)
  have HSF : Hid (∀ W, New w W → repState.cells W W.heap.size s [s0, s1, s2]) := Lib.hid fun W hW => repState.more hW.size (repState.stays (fun p hp => hW.cell hp id) hs)
  have HSO := Lib.hid hs
  obtain ⟨Al, nl, cl, u1, u2, u3, u4, u5, Ap, np, cp, e, ho, hl, hp⟩ := h
  simp only [List.cons.injEq, and_true] at e
  obtain ⟨rfl, rfl, rfl, rfl, rfl, rfl, rfl⟩ := e
  obtain ⟨o1, o2, o3, o4, o5⟩ := ho
  obtain ⟨Aa, na, ca, Ab, nb, cb, e, ha, hb⟩ := hs
  simp only [List.cons.injEq, and_true] at e
  obtain ⟨rfl, rfl, rfl⟩ := e
  clear ha hb hl hp
  have b0 : Blk ((w.alloc (.cells #[.slice Al nl cl, v1, v2, v3, v4, v5, .slice Ap np cp] 26)).alloc (.cells #[.int .i64 s.tick, .slice Aa na ca, .slice Ab nb cb] 30)) w.heap.size 26 #[.slice Al nl cl, v1, v2, v3, v4, v5, .slice Ap np cp] := (Blk.made _ _ _).alloc _
  have b1 : Blk ((w.alloc (.cells #[.slice Al nl cl, v1, v2, v3, v4, v5, .slice Ap np cp] 26)).alloc (.cells #[.int .i64 s.tick, .slice Aa na ca, .slice Ab nb cb] 30)) (w.heap.size + 1) 30 #[.int .i64 s.tick, .slice Aa na ca, .slice Ab nb cb] := Blk.made_at _ _ _ _ (by simp)
  have hn : New w ((w.alloc (.cells #[.slice Al nl cl, v1, v2, v3, v4, v5, .slice Ap np cp] 26)).alloc (.cells #[.int .i64 s.tick, .slice Aa na ca, .slice Ab nb cb] 30)) := ((Kept.refl _ _).alloc _).alloc _
  have B0 := Lib.hid b0
  have B1 := Lib.hid b1
  have HN := Lib.hid hn
  have HZ := Lib.hid hz
  have HWA := Lib.hid hwa
  clear b0 b1 hn hz hwa
  go_enter Try.func5, Try.ntmps5
  go_upto_region 1 with (fail)
  generalize (w.alloc (.cells #[.slice Al nl cl, v1, v2, v3, v4, v5, .slice Ap np cp] 26)).alloc (.cells #[.int .i64 s.tick, .slice Aa na ca, .slice Ab nb cb] 30) = w1 at *
  have HBL : Hid (w.heap.size + 1 < w1.heap.size) := Lib.hid B1.out.lt
  generalize hbe : w.heap.size = b at *
  have HBE : Hid (w.heap.size = b) := Lib.hid hbe
  clear hbe
  have haw := awake_any w1
  have HAW := Lib.hid haw
  clear haw
  go_wp2_with fail
  refine HAW.out.mono ?_
  rintro e w2 ⟨rfl, hm2⟩
  have hm2' := HN.out.trans hm2
  have hfw := few_any (HSF.out w2 hm2') (Nat.le_refl _) HZ.out
  have HM12 := Lib.hid hm2
  have HBX : Hid (∀ W, New w2 W → W.cell? ⟨b, 0, none⟩ = some (.slice Al nl cl) ∧ W.cell? ⟨b, 1, none⟩ = some (v1) ∧ W.cell? ⟨b, 2, none⟩ = some (v2) ∧ W.cell? ⟨b, 3, none⟩ = some (v3) ∧ W.cell? ⟨b, 4, none⟩ = some (v4) ∧ W.cell? ⟨b, 5, none⟩ = some (v5) ∧ W.cell? ⟨b, 6, none⟩ = some (.slice Ap np cp) ∧ W.cell? ⟨b + 1, 0, none⟩ = some (.int .i64 s.tick) ∧ W.cell? ⟨b + 1, 1, none⟩ = some (.slice Aa na ca) ∧ W.cell? ⟨b + 1, 2, none⟩ = some (.slice Ab nb cb)) := Lib.hid fun W hW => by
    have h1 := B0.out.kept (hm2.trans hW) id
    have h2 := B1.out.kept (hm2.trans hW) id
    exact ⟨h1.cell 0, h1.cell 1, h1.cell 2, h1.cell 3, h1.cell 4, h1.cell 5, h1.cell 6, h2.cell 0, h2.cell 1, h2.cell 2⟩
  obtain ⟨y0, y1, y2, y3, y4, y5, y6, z0, z1, z2⟩ := HBX.out w2 (Kept.refl _ _)
  have HFW := Lib.hid hfw
  have HM2 := Lib.hid hm2'
  clear hfw hm2'
  clear hm2
  go_wp2_with fail
  refine HFW.out.mono ?_
  rintro e w3 ⟨hm3, bf, rfl, hfew⟩
  have hn3 := HM2.out.trans hm3
  clear y0 y1 y2 y3 y4 y5 y6 z0 z1 z2
  obtain ⟨y0, y1, y2, y3, y4, y5, y6, z0, z1, z2⟩ := HBX.out w3 hm3
  cases bf with
  | false =>
    have HN3 := Lib.hid hn3
    clear hn3
    clear hm3 hfew
    go_wp2_with fail
    go_ret
    exact ⟨rfl, HN3.out⟩
  | true =>
    have hfew := hfew rfl
    have HK3 : Hid (New w1 w3) := Lib.hid (HM12.out.trans hm3)
    -- own
    have hco := copyState_any (HSF.out w3 hn3) (Nat.le_refl _) hfew
    have HCO := Lib.hid hco
    have HN3 := Lib.hid hn3
    have HM3 := Lib.hid hm3
    have HFEW := Lib.hid hfew
    clear hco hn3 hm3 hfew
    go_wp2_with fail
    refine HCO.out.mono ?_
    rintro e w4 ⟨cs, rfl, hown, hm4⟩
    obtain ⟨A1, n1, c1, E1, m1, d1, G1, G2, rfl, ho1, ho2, -⟩ := hown
    have HST1 : Hid (repState.cells w4 w4.heap.size s [.int .i64 s.tick, .slice A1 n1 c1, .slice E1 m1 d1]) := Lib.hid ⟨_, _, _, _, _, _, rfl, ho1.read part_reads, ho2.read proc_reads⟩
    have kb1 := ho1.bound
    have kb2 := ho2.bound
    have hbt1 := Blk.made w4 30 #[.int .i64 s.tick, .slice A1 n1 c1, .slice E1 m1 d1]
    have hal1 : New w4 (w4.alloc (.cells #[.int .i64 s.tick, .slice A1 n1 c1, .slice E1 m1 d1] 30)) := (Kept.refl _ _).alloc _
    have hk5 := HK3.out.trans (hm4.trans hal1)
    have hn5 := HN3.out.trans (hm4.trans hal1)
    have hm5 := HM3.out.trans (hm4.trans hal1)
    have HZ4 : Hid (w1.heap.size ≤ w4.heap.size) := Lib.hid (HK3.out.trans hm4).size
    have BT1 := Lib.hid hbt1
    have HN5 := Lib.hid hn5
    have HM5 := Lib.hid hm5
    have HK5 := Lib.hid hk5
    have HAL1 := Lib.hid hal1
    clear hbt1 hn5 hm5 hk5 hal1
    clear ho1 ho2 hm4
    go_upto_region 6 with (fail)
    generalize w4.alloc (.cells #[.int .i64 s.tick, .slice A1 n1 c1, .slice E1 m1 d1] 30) = w5 at *
    have HZ5 : Hid (w4.heap.size < w5.heap.size) := Lib.hid BT1.out.lt
    have HST1b : Hid (∀ W, New w5 W → repState.cells W W.heap.size s [.int .i64 s.tick, .slice A1 n1 c1, .slice E1 m1 d1]) := Lib.hid fun W hW => repState.more (HAL1.out.trans hW).size (repState.stays (fun p hp => (HAL1.out.trans hW).cell hp id) HST1.out)
    -- want
    clear y0 y1 y2 y3 y4 y5 y6 z0 z1 z2
    obtain ⟨y0, y1, y2, y3, y4, y5, y6, z0, z1, z2⟩ := HBX.out w5 HM5.out
    have hro := rof_any (HCF.out w5 HN5.out) (HSF.out w5 HN5.out) (Nat.le_refl _) a HWA.out HFEW.out
    have HRO := Lib.hid hro
    clear hro
    go_wp2_with fail
    refine HRO.out.mono ?_
    rintro e w6 ⟨A0, n0, c0, E0, m0, d0, rfl, hst2, hm6⟩
    have hco := copyState_any hst2 (Nat.le_refl _) (HFEW.out.of a)
    have HCO := Lib.hid hco
    have HM6 := Lib.hid hm6
    clear hco hm6
    clear hst2
    go_wp2_with fail
    refine HCO.out.mono ?_
    rintro e w7 ⟨cs, rfl, hown, hm7⟩
    obtain ⟨A2, n2, c2, E2, m2, d2, G1, G2, rfl, ho1, ho2, -⟩ := hown
    have HTK : Hid ((ofS c s a).tick = s.tick) := Lib.hid rfl
    rw [HTK.out]
    have HST2 : Hid (repState.cells w7 w7.heap.size (ofS c s a) [.int .i64 s.tick, .slice A2 n2 c2, .slice E2 m2 d2]) := Lib.hid ⟨_, _, _, _, _, _, rfl, ho1.read part_reads, ho2.read proc_reads⟩
    have kb3 := ho1.bound
    have kb4 := ho2.bound
    have hbt2 := Blk.made w7 30 #[.int .i64 s.tick, .slice A2 n2 c2, .slice E2 m2 d2]
    have hal2 : New w7 (w7.alloc (.cells #[.int .i64 s.tick, .slice A2 n2 c2, .slice E2 m2 d2] 30)) := (Kept.refl _ _).alloc _
    have hk8 := HM6.out.trans (hm7.trans hal2)
    have hn8 := HN5.out.trans hk8
    have hm8 := HM5.out.trans hk8
    have HZ7 : Hid (w5.heap.size ≤ w7.heap.size) := Lib.hid (HM6.out.trans hm7).size
    have BT2 := Lib.hid hbt2
    have HN8 := Lib.hid hn8
    have HM8 := Lib.hid hm8
    have HK8 := Lib.hid hk8
    have HAL2 := Lib.hid hal2
    clear hbt2 hn8 hm8 hk8 hal2
    clear ho1 ho2 hm7
    go_upto_region 7 with (fail)
    generalize w7.alloc (.cells #[.int .i64 s.tick, .slice A2 n2 c2, .slice E2 m2 d2] 30) = w8 at *
    have HZ8 : Hid (w7.heap.size < w8.heap.size) := Lib.hid BT2.out.lt
    -- one
    clear y0 y1 y2 y3 y4 y5 y6 z0 z1 z2
    obtain ⟨y0, y1, y2, y3, y4, y5, y6, z0, z1, z2⟩ := HBX.out w8 HM8.out
    have hb1 := BT1.out.kept HK8.out id
    have r0 := hb1.cell 0
    have r1 := hb1.cell 1
    have r2 := hb1.cell 2
    simp only [List.getElem?_toArray, List.getElem?_cons_zero, List.getElem?_cons_succ] at r0 r1 r2
    have hof := of_any (HCF.out w8 HN8.out) (HST1b.out w8 HK8.out) (Nat.le_refl _) a HFEW.out
    have HOF := Lib.hid hof
    clear hof
    clear hb1
    go_wp2_with fail
    refine HOF.out.mono ?_
    rintro e w9 ⟨cs, rfl, hown, hm9⟩
    obtain ⟨A3, n3, c3, E3, m3, d3, F1, F2, rfl, ho1, ho2, hF1, hF2⟩ := hown
    have kb5 := ho1.bound
    have kb6 := ho2.bound
    have hbt3 := Blk.made w9 30 #[.int .i64 s.tick, .slice A3 n3 c3, .slice E3 m3 d3]
    have hal3 : New w9 (w9.alloc (.cells #[.int .i64 s.tick, .slice A3 n3 c3, .slice E3 m3 d3] 30)) := (Kept.refl _ _).alloc _
    have hk10 := hm9.trans hal3
    have hn10 := HN8.out.trans hk10
    have hm10 := HM8.out.trans hk10
    have HZ9 : Hid (w8.heap.size ≤ w9.heap.size) := Lib.hid hm9.size
    rw [HTK.out]
    have BT3 := Lib.hid hbt3
    have HN10 := Lib.hid hn10
    have HM10 := Lib.hid hm10
    have HK10 := Lib.hid hk10
    have HAL3 := Lib.hid hal3
    have HP9 := Lib.hid ho1
    have HQ9 := Lib.hid ho2
    have HF1 := Lib.hid hF1
    have HF2 := Lib.hid hF2
    clear hbt3 hn10 hm10 hk10 hal3 ho1 ho2 hF1 hF2
    clear hm9
    go_upto_region 8 with (fail)
    generalize w9.alloc (.cells #[.int .i64 s.tick, .slice A3 n3 c3, .slice E3 m3 d3] 30) = w10 at *
    have HZ10 : Hid (w9.heap.size < w10.heap.size) := Lib.hid BT3.out.lt
    -- two
    clear y0 y1 y2 y3 y4 y5 y6 z0 z1 z2
    obtain ⟨y0, y1, y2, y3, y4, y5, y6, z0, z1, z2⟩ := HBX.out w10 HM10.out
    clear r0 r1 r2
    have hb1 := BT1.out.kept (HK8.out.trans HK10.out) id
    have r0 := hb1.cell 0
    have r1 := hb1.cell 1
    have r2 := hb1.cell 2
    simp only [List.getElem?_toArray, List.getElem?_cons_zero, List.getElem?_cons_succ] at r0 r1 r2
    have hof := of_any (HCF.out w10 HN10.out) (HST1b.out w10 (HK8.out.trans HK10.out)) (Nat.le_refl _) a HFEW.out
    have HOF := Lib.hid hof
    clear hof
    clear hb1
    go_wp2_with fail
    refine HOF.out.mono ?_
    rintro e w11 ⟨cs, rfl, hown, hm11⟩
    obtain ⟨A4, n4, c4, E4, m4, d4, F3, F4, rfl, ho1, ho2, hF3, hF4⟩ := hown
    have kb7 := ho1.bound
    have kb8 := ho2.bound
    have hbt4 := Blk.made w11 30 #[.int .i64 s.tick, .slice A4 n4 c4, .slice E4 m4 d4]
    have hal4 : New w11 (w11.alloc (.cells #[.int .i64 s.tick, .slice A4 n4 c4, .slice E4 m4 d4] 30)) := (Kept.refl _ _).alloc _
    have hk12 := hm11.trans hal4
    have HZ11 : Hid (w10.heap.size ≤ w11.heap.size) := Lib.hid hm11.size
    have HR3 : Hid (∀ W, New w9 W → repState.cells W W.heap.size (ofS c s a) [.int .i64 s.tick, .slice A3 n3 c3, .slice E3 m3 d3]) := Lib.hid fun W hW => ⟨_, _, _, _, _, _, rfl, (HP9.out.new hW).read part_reads, (HQ9.out.new hW).read proc_reads⟩
    have HR4 : Hid (∀ G : Nat → Prop, (∀ k, G k → k < w10.heap.size) → ∀ W, Kept G w11 W → repState.cells W W.heap.size (ofS c s a) [.int .i64 s.tick, .slice A4 n4 c4, .slice E4 m4 d4]) := Lib.hid fun G hG W hW => ⟨_, _, _, _, _, _, rfl, (ho1.kept hW fun k e e' => by have := hG k e'; have := (hF3 k e).1; omega).read part_reads, (ho2.kept hW fun k e e' => by have := hG k e'; have := hF4 k e; omega).read proc_reads⟩
    rw [HTK.out]
    have BT4 := Lib.hid hbt4
    have HK12 := Lib.hid hk12
    have HAL4 := Lib.hid hal4
    clear hbt4 hk12 hal4
    clear hm11 ho1 ho2 hF3 hF4
    go_upto_region 9 with (fail)
    generalize w11.alloc (.cells #[.int .i64 s.tick, .slice A4 n4 c4, .slice E4 m4 d4] 30) = w12 at *
    have HZ12 : Hid (w11.heap.size < w12.heap.size) := Lib.hid BT4.out.lt
    -- the two are as they should be
    have HC12 : Hid (∀ W, New w12 W → W.cell? ⟨w9.heap.size, 0, none⟩ = some (.int .i64 s.tick) ∧ W.cell? ⟨w9.heap.size, 1, none⟩ = some (.slice A3 n3 c3) ∧ W.cell? ⟨w9.heap.size, 2, none⟩ = some (.slice E3 m3 d3) ∧ W.cell? ⟨w7.heap.size, 0, none⟩ = some (.int .i64 s.tick) ∧ W.cell? ⟨w7.heap.size, 1, none⟩ = some (.slice A2 n2 c2) ∧ W.cell? ⟨w7.heap.size, 2, none⟩ = some (.slice E2 m2 d2) ∧ W.cell? ⟨w11.heap.size, 0, none⟩ = some (.int .i64 s.tick) ∧ W.cell? ⟨w11.heap.size, 1, none⟩ = some (.slice A4 n4 c4) ∧ W.cell? ⟨w11.heap.size, 2, none⟩ = some (.slice E4 m4 d4)) := Lib.hid fun W hW => by
      have h3 := BT3.out.kept (HK12.out.trans hW) id
      have h2 := BT2.out.kept (HK10.out.trans (HK12.out.trans hW)) id
      have h4 := BT4.out.kept hW id
      exact ⟨h3.cell 0, h3.cell 1, h3.cell 2, h2.cell 0, h2.cell 1, h2.cell 2, h4.cell 0, h4.cell 1, h4.cell 2⟩
    obtain ⟨t0, t1, t2, x0, x1, x2, q0, q1, q2⟩ := HC12.out w12 (Kept.refl _ _)
    have HR2 : Hid (∀ W, New w8 W → repState.cells W W.heap.size (ofS c s a) [.int .i64 s.tick, .slice A2 n2 c2, .slice E2 m2 d2]) := Lib.hid fun W hW => repState.more (HAL2.out.trans hW).size (repState.stays (fun p hp => (HAL2.out.trans hW).cell hp id) HST2.out)
    have hx1 := rsame_state (HR3.out w12 (HAL3.out.trans HK12.out)) (HR2.out w12 (HK10.out.trans HK12.out)) (Nat.le_refl _)
    rw [eqb_true rfl] at hx1
    have HX1 := Lib.hid hx1
    clear hx1
    go_wp2_with fail
    refine HX1.out.mono ?_
    rintro e w13 ⟨rfl, hm13⟩
    clear t0 t1 t2 x0 x1 x2 q0 q1 q2
    obtain ⟨t0, t1, t2, x0, x1, x2, q0, q1, q2⟩ := HC12.out w13 hm13
    have hx2 := rsame_state (HR4.out (fun _ => False) (fun _ h => h.elim) w13 (HAL4.out.trans hm13)) (HR2.out w13 (HK10.out.trans (HK12.out.trans hm13))) (Nat.le_refl _)
    rw [eqb_true rfl] at hx2
    have HX2 := Lib.hid hx2
    have HM13 := Lib.hid hm13
    clear hx2 hm13
    go_wp2_with fail
    refine HX2.out.mono ?_
    rintro e w14 ⟨rfl, hm14⟩
    have HM14 := Lib.hid (HM13.out.trans hm14)
    clear hm14
    have hnn : New w9 w14 := HAL3.out.trans (HK12.out.trans HM14.out)
    have HPB := Lib.hid (HP9.out.new hnn)
    have HQB := Lib.hid (HQ9.out.new hnn)
    have HALLK : Hid (∀ W, Kept (fun k => w8.heap.size ≤ k ∧ k < w9.heap.size) w14 W → W.cell? ⟨w9.heap.size, 1, none⟩ = some (.slice A3 n3 c3) ∧ W.cell? ⟨w9.heap.size, 2, none⟩ = some (.slice E3 m3 d3)) := Lib.hid fun W hW => by
      have h3 := (BT3.out.kept (HK12.out.trans HM14.out) id).kept hW (fun e => Nat.lt_irrefl _ e.2)
      exact ⟨h3.cell 1, h3.cell 2⟩
    have HSZB : Hid (w9.heap.size < w14.heap.size) := Lib.hid (Nat.lt_of_lt_of_le HZ10.out (HK12.out.trans HM14.out).size)
    have HFW : Hid (Few (ofS c s a)) := Lib.hid (HFEW.out.of a)
    clear t0 t1 t2 x0 x1 x2 q0 q1 q2 r0 r1 r2 hnn y0 y1 y2 y3 y4 y5 y6 z0 z1 z2
    obtain ⟨t1, t2⟩ := HALLK.out w14 (Kept.refl _ _)
    go_wp2_with fail
    go_loopw [11] (fun t wr => ∃ (i : Nat) (L : List (Part ⊕ List Value)), i ≤ n3 ∧ t = .int .i64 i ∧ OSl partO.or wr F1 A3 n3 c3 L ∧ From (fun x : Part => x.log.length ≤ 1048576 ∧ x.owners.length ≤ 1048576 ∧ x.queues.length ≤ 1048576 ∧ ∀ q ∈ x.queues, q.length ≤ 1048576) i L ∧ Kept F1 w14 wr) (fun t _ => (n3 - intOf t).toNat)
    case atStart => exact ⟨0, _, Nat.zero_le _, rfl, HPB.out.or_of, From.all (fun x hx => HFW.out.inner x hx), Kept.refl _ _⟩
    case round =>
      obtain ⟨i, L, hi, rfl, hL, hfr, hkr⟩ := hrel
      obtain ⟨wo, hwo⟩ : ∃ wo, wo = wr := ⟨_, rfl⟩
      subst hwo
      obtain ⟨t1, t2⟩ := HALLK.out wo (hkr.mono fun k _ e => (HF1.out k e).1)
      by_cases hlt : i < n3
      · have hiL : i < L.length := by have := hL.len; omega
        obtain ⟨x, hx, hsx⟩ := hfr i hiL (Nat.le_refl _)
        obtain ⟨g, o, cs, Fi, rfl, hgF, hown, hFi, hout, hcell⟩ := hL.out i hiL hx
        obtain ⟨p0, p1, p2, p3, p4, p5, p6, p7, p8, Fa, Fb, Fc, rfl, hlg, how, hqu, hd1, hd2, hd3⟩ := hown
        change ∀ j', j' < 6 → wo.cell? ⟨g, o + i * 6 + j', none⟩ = _ ∧ wo.frozen? ⟨g, o + i * 6 + j', none⟩ = false at hcell
        have x0 := (hcell 0 (by decide)).1
        have x1 := (hcell 1 (by decide)).1
        have x2 := (hcell 2 (by decide)).1
        have x3 := (hcell 3 (by decide)).1
        have x4 := (hcell 4 (by decide)).1
        have x5 := (hcell 5 (by decide)).1
        have HCELL := Lib.hid hcell
        simp only [partC, Nat.add_zero, List.getElem?_toArray, List.getElem?_cons_zero, List.getElem?_cons_succ] at x0 x1 x2 x3 x4 x5
        obtain ⟨hs1, hs2, hs3, hs4⟩ := hsx
        have m1 : p1 ≤ 1048576 := by have := hlg.len; omega
        have m2 : p4 ≤ 1048576 := by have := how.len; omega
        have m3' : p7 ≤ 1048576 := by have := hqu.len; omega
        have k1 := hlg.bound
        have k2 := how.bound
        have k3 := hqu.bound
        obtain ⟨rl, xl, hrl, hfl⟩ := hlg.row
        obtain ⟨rb, xb, hrb, hfb⟩ := how.row
        change Row wo 3 rl p0 p1 p2 xl at hrl
        change Row wo 1 rb p3 p4 p5 xb at hrb
        have HQS := Lib.hid hs4
        have HQO := Lib.hid hqu.or_of
        have HQF : Hid (From (fun q : List Int => q.length ≤ 1048576) 0 (x.queues.map (Sum.inl (β := List Value)))) := Lib.hid (From.all hs4)
        have hsz := hkr.size
        have HFI : Hid (∀ k, Fi k → k < wo.heap.size) := Lib.hid fun k e => by have := (HF1.out k (hFi k e).1).1; have := HSZB.out; omega
        have HFIG : Hid (∀ k, Fi k → w8.heap.size ≤ k ∧ k < w9.heap.size) := Lib.hid fun k e => (HF1.out k (hFi k e).1).1
        have HGG : Hid (w8.heap.size ≤ g ∧ g < w9.heap.size) := Lib.hid (HF1.out g hgF).1
        have e2 : (0 : Int) ≤ (i : Int) := by omega
        have e3 : (i : Int) < (n3 : Int) := by omega
        have hal : New wo (wo.alloc (.cells #[.int .i64 x.cursor, .slice p0 p1 p2, .int .i64 x.lost, .int .i64 x.forbidden, .slice p3 p4 p5, .slice p6 p7 p8] 43)) := (Kept.refl _ _).alloc _
        have hbx := Blk.made wo 43 #[.int .i64 x.cursor, .slice p0 p1 p2, .int .i64 x.lost, .int .i64 x.forbidden, .slice p3 p4 p5, .slice p6 p7 p8]
        clear hx
        have HKR := Lib.hid hkr
        have HL := Lib.hid hL
        have HFR := Lib.hid hfr
        have HGF := Lib.hid hgF
        have HFJ := Lib.hid hFi
        have HOUT := Lib.hid hout
        have HRL := Lib.hid hrl
        have HFL := Lib.hid hfl
        have HRB := Lib.hid hrb
        have HFB := Lib.hid hfb
        have HD1 := Lib.hid hd1
        have HD2 := Lib.hid hd2
        have HD3 := Lib.hid hd3
        have HAL := Lib.hid hal
        have HBXP := Lib.hid hbx
        clear hkr hL hfr hgF hFi hout hrl hfl hrb hfb hd1 hd2 hd3 hal hbx
        clear hcell hs1 hs2 hs3 hs4 hlg how hqu hiL hsz
        go_upto_region 15 with (fail)
        generalize wo.alloc (.cells #[.int .i64 x.cursor, .slice p0 p1 p2, .int .i64 x.lost, .int .i64 x.forbidden, .slice p3 p4 p5, .slice p6 p7 p8] 43) = wp at *
        clear x0 x1 x2 x3 x4 x5
        have HSP : Hid (wo.heap.size < wp.heap.size) := Lib.hid HBXP.out.lt
        generalize hbxe : wo.heap.size = bx at *
        have HBXE : Hid (wo.heap.size = bx) := Lib.hid hbxe
        have HRLB : Hid (∀ k, rl = some k → k < bx) := Lib.hid fun k e => HFI.out k (HD1.out k (HFL.out k e)).1
        have HRBB : Hid (∀ k, rb = some k → k < bx) := Lib.hid fun k e => HFI.out k (HD2.out k (HFB.out k e)).1
        have HRL6 := Lib.hid (HRL.out.new (by decide) HAL.out)
        clear hbxe
        have y1 := HBXP.out.cell 1
        simp only [List.getElem?_toArray, List.getElem?_cons_zero, List.getElem?_cons_succ] at y1
        go_wp2_with fail
        go_loopw [13] (fun t wr => ∃ (k : Nat) (xs : List Value), k ≤ p1 ∧ t = .int .i64 k ∧ Row wr 3 rl p0 p1 p2 xs ∧ Kept (fun j => rl = some j) wp wr) (fun t _ => (p1 - intOf t).toNat)
        case atStart => exact ⟨0, _, Nat.zero_le _, rfl, HRL6.out, Kept.refl _ _⟩
        case round =>
          obtain ⟨kA, xsA, hk, rfl, hrkA, hkkA⟩ := hrel
          have hbkA := HBXP.out.kept hkkA (fun e => by have := HRLB.out _ e; omega)
          have y1 := hbkA.cell 1
          simp only [List.getElem?_toArray, List.getElem?_cons_zero, List.getElem?_cons_succ] at y1
          have kbA := hrkA.bound
          by_cases hlk : kA < p1
          · obtain ⟨gg, oo, e1, rfl, hc⟩ := hrkA.at_index (k := kA) hlk
            obtain ⟨v, qa, qb, qc⟩ := hc 2 (by decide)
            have e4 : (0 : Int) ≤ (kA : Int) := by omega
            have e5 : (kA : Int) < (p1 : Int) := by omega
            have HRK := Lib.hid hrkA
            have HKK := Lib.hid hkkA
            have HE1 := Lib.hid e1
            clear hrkA hkkA e1
            clear hc qa hbkA
            go_wp2_with fail
            go_roundw
            case rel =>
              refine ⟨kA + 1, xsA.set (kA * 3 + 2) (.int .i64 99), by omega, by go_num, ?_, HKK.out.setCell (.inr HE1.out) _⟩
              have h := HRK.out.set (j := kA * 3 + 2) rfl (by omega) (.int .i64 99)
              rw [show oo + (kA * 3 + 2) = oo + kA * 3 + 2 from by omega] at h
              exact h
            case measure => simp [intOf]; omega
          · obtain rfl : p1 = kA := by omega
            obtain ⟨wa, hwa⟩ : ∃ wa, wa = wr := ⟨_, rfl⟩
            subst hwa
            have hba := HBXP.out.kept hkkA (fun e => by have := HRLB.out _ e; omega)
            have y1 := hba.cell 1
            have y4 := hba.cell 4
            have y5 := hba.cell 5
            simp only [List.getElem?_toArray, List.getElem?_cons_zero, List.getElem?_cons_succ] at y1 y4 y5
            have hkA : Kept Fi wo wa := (HAL.out.mono (fun _ _ h => h.elim)).step hkkA fun k hk e => (HD1.out k (HFL.out k e)).1
            have hrbA := ((HRB.out.new (by decide) HAL.out).of_kept (by decide) hkkA fun k e e' => (HD1.out k (HFL.out k e')).2.1 (HFB.out k e))
            have hqA := (HQO.out.new HAL.out).kept hkkA fun k e e' => (HD1.out k (HFL.out k e')).2.2 e
            have hba2 := hba.kept ((Kept.refl (fun _ => False) wa).drew) id
            have hdr : New wa wa.drew := (Kept.refl _ _).drew
            have HRA := Lib.hid hrkA
            have HKA := Lib.hid hkA
            have HRBA := Lib.hid hrbA
            have HQA := Lib.hid hqA
            have HBA := Lib.hid hba
            have HBA2 := Lib.hid hba2
            have HDR := Lib.hid hdr
            clear hrkA hkA hrbA hqA hba hba2 hdr
            clear hkkA
            go_wp2_with fail
            go_region_held3 (fun W => W.cell? ⟨bx, 1, none⟩ = some (.slice p0 p1 p2) ∧ W.cell? ⟨bx, 4, none⟩ = some (.slice p3 p4 p5) ∧ W.cell? ⟨bx, 5, none⟩ = some (.slice p6 p7 p8)) (first | (refine ⟨?_, ?_, ?_⟩ <;> with_reducible assumption) | go_keep) ((fail))
            generalize wa.drew = wb at *
            have y4 := HBA2.out.cell 4
            simp only [List.getElem?_toArray, List.getElem?_cons_zero, List.getElem?_cons_succ] at y4
            have HRBD := Lib.hid (HRBA.out.new (by decide) HDR.out)
            have HRAD := Lib.hid (HRA.out.new (by decide) HDR.out)
            have HQAD := Lib.hid (HQA.out.new HDR.out)
            have HKAD := Lib.hid (HKA.out.trans (HDR.out.mono fun _ _ h => h.elim))
            go_wp2_with fail
            go_loopw [17] (fun t wr => ∃ (k : Nat) (xs : List Value), k ≤ p4 ∧ t = .int .i64 k ∧ Row wr 1 rb p3 p4 p5 xs ∧ Kept (fun j => rb = some j) wb wr) (fun t _ => (p4 - intOf t).toNat)
            case atStart => exact ⟨0, _, Nat.zero_le _, rfl, HRBD.out, Kept.refl _ _⟩
            case round =>
              obtain ⟨kB, xsB, hk, rfl, hrkB, hkkB⟩ := hrel
              have hbkB := HBA2.out.kept hkkB (fun e => by have := HRBB.out _ e; omega)
              have y4 := hbkB.cell 4
              simp only [List.getElem?_toArray, List.getElem?_cons_zero, List.getElem?_cons_succ] at y4
              have kbB := hrkB.bound
              by_cases hlk : kB < p4
              · obtain ⟨gg, oo, e1, rfl, hc⟩ := hrkB.at_index (k := kB) hlk
                obtain ⟨v, qa, qb, qc⟩ := hc 0 (by decide)
                rw [show oo + kB * 1 + 0 = oo + kB from by omega] at qb qc
                have e4 : (0 : Int) ≤ (kB : Int) := by omega
                have e5 : (kB : Int) < (p4 : Int) := by omega
                have HRK := Lib.hid hrkB
                have HKK := Lib.hid hkkB
                have HE1 := Lib.hid e1
                clear hrkB hkkB e1
                clear hc qa hbkB
                go_wp2_with fail
                go_roundw
                case rel =>
                  refine ⟨kB + 1, xsB.set (kB * 1 + 0) (.int .i64 99), by omega, by go_num, ?_, HKK.out.setCell (.inr HE1.out) _⟩
                  have h := HRK.out.set (j := kB * 1 + 0) rfl (by omega) (.int .i64 99)
                  rw [show oo + (kB * 1 + 0) = oo + kB from by omega] at h
                  exact h
                case measure => simp [intOf]; omega
              · obtain rfl : p4 = kB := by omega
                obtain ⟨wc, hwc⟩ : ∃ wc, wc = wr := ⟨_, rfl⟩
                subst hwc
                have hbc := HBA2.out.kept hkkB (fun e => by have := HRBB.out _ e; omega)
                have y5 := hbc.cell 5
                simp only [List.getElem?_toArray, List.getElem?_cons_zero, List.getElem?_cons_succ] at y5
                have HKC := Lib.hid (HKAD.out.step hkkB fun k hk e => (HD2.out k (HFB.out k e)).1)
                have HRAC := Lib.hid (HRAD.out.of_kept (by decide) hkkB fun k e e' => (HD1.out k (HFL.out k e)).2.1 (HFB.out k e'))
                have HQAC := Lib.hid (HQAD.out.kept hkkB fun k e e' => (HD2.out k (HFB.out k e')).2 e)
                have HBC := Lib.hid hbc
                have HRBC := Lib.hid hrkB
                clear hbc hrkB
                clear hkkB
                go_wp2_with fail
                go_loopw [18] (fun t wr => ∃ (k : Nat) (Lq : List (List Int ⊕ List Value)), k ≤ p7 ∧ t = .int .i64 k ∧ OSl intO.slice.or wr Fc p6 p7 p8 Lq ∧ From (fun q : List Int => q.length ≤ 1048576) k Lq ∧ Kept Fc wc wr) (fun t _ => (p7 - intOf t).toNat)
                case atStart => exact ⟨0, _, Nat.zero_le _, rfl, HQAC.out, HQF.out, Kept.refl _ _⟩
                case round =>
                  obtain ⟨k, Lq, hk, rfl, hq, hfq, hkk⟩ := hrel
                  obtain ⟨wq, hwq⟩ : ∃ wq, wq = wr := ⟨_, rfl⟩
                  subst hwq
                  have hbq := HBC.out.kept hkk (fun e => by have := HFI.out _ (HD3.out _ e); omega)
                  have y5 := hbq.cell 5
                  simp only [List.getElem?_toArray, List.getElem?_cons_zero, List.getElem?_cons_succ] at y5
                  by_cases hlk : k < p7
                  · have hkL : k < Lq.length := by have := hq.len; omega
                    obtain ⟨q, hqx, hqs⟩ := hfq k hkL (Nat.le_refl _)
                    obtain ⟨g3, o3, cs3, Fk, rfl, hgF3, hown3, hFk, hout3, hcell3⟩ := hq.out k hkL hqx
                    obtain ⟨Aq, nq, cq, rfl, hqo⟩ := hown3
                    have u0 := (hcell3 0 (by decide)).1
                    rw [show o3 + k * intO.slice.size + 0 = o3 + k from by show o3 + k * 1 + 0 = _; omega] at u0
                    simp only [List.getElem?_toArray, List.getElem?_cons_zero, List.getElem?_cons_succ] at u0
                    have m4 : nq ≤ 1048576 := by have := hqo.len; omega
                    have k4 := hqo.bound
                    obtain ⟨rk, xk, hrk, hfk⟩ := hqo.row
                    change Row wq 1 rk Aq nq cq xk at hrk
                    have e4 : (0 : Int) ≤ (k : Int) := by omega
                    have e5 : (k : Int) < (p7 : Int) := by omega
                    have HQQ := Lib.hid hq
                    have HFQ := Lib.hid hfq
                    have HKK := Lib.hid hkk
                    have HBQ := Lib.hid hbq
                    have HFK := Lib.hid hFk
                    have HOUT3 := Lib.hid hout3
                    have HRK := Lib.hid hrk
                    have HFKR := Lib.hid hfk
                    clear hq hfq hkk hbq hFk hout3 hrk hfk
                    clear hcell3 hqo hqx hqs hkL hgF3
                    go_wp2_with fail
                    go_loopw [20] (fun t wr => ∃ (k : Nat) (xs : List Value), k ≤ nq ∧ t = .int .i64 k ∧ Row wr 1 rk Aq nq cq xs ∧ Kept (fun j => rk = some j) wq wr) (fun t _ => (nq - intOf t).toNat)
                    case atStart => exact ⟨0, _, Nat.zero_le _, rfl, HRK.out, Kept.refl _ _⟩
                    case round =>
                      obtain ⟨kC, xsC, hk, rfl, hrkC, hkkC⟩ := hrel
                      have kbC := hrkC.bound
                      by_cases hlk : kC < nq
                      · obtain ⟨gg, oo, e1, rfl, hc⟩ := hrkC.at_index (k := kC) hlk
                        obtain ⟨v, qa, qb, qc⟩ := hc 0 (by decide)
                        rw [show oo + kC * 1 + 0 = oo + kC from by omega] at qb qc
                        have e4 : (0 : Int) ≤ (kC : Int) := by omega
                        have e5 : (kC : Int) < (nq : Int) := by omega
                        have HRK := Lib.hid hrkC
                        have HKK := Lib.hid hkkC
                        have HE1 := Lib.hid e1
                        clear hrkC hkkC e1
                        clear hc qa
                        go_wp2_with fail
                        go_roundw
                        case rel =>
                          refine ⟨kC + 1, xsC.set (kC * 1 + 0) (.int .i64 99), by omega, by go_num, ?_, HKK.out.setCell (.inr HE1.out) _⟩
                          have h := HRK.out.set (j := kC * 1 + 0) rfl (by omega) (.int .i64 99)
                          rw [show oo + (kC * 1 + 0) = oo + kC from by omega] at h
                          exact h
                        case measure => simp [intOf]; omega
                      · obtain rfl : nq = kC := by omega
                        obtain ⟨we, hwe⟩ : ∃ we, we = wr := ⟨_, rfl⟩
                        subst hwe
                        have HR5 := Lib.hid hrkC
                        have HK5 := Lib.hid hkkC
                        clear hrkC hkkC
                        go_wp2_with fail
                        go_loopw [19, 21] (fun q t wr => ∃ (n : Nat) (r : Option Nat) (A : Option Addr) (m cc : Nat) (xs : List Value), n ≤ 9 ∧ q = .slice A m cc ∧ t = .int .i64 n ∧ m = nq + n ∧ Row wr 1 r A m cc xs ∧ (∀ j, r = some j → Fk j ∨ wq.heap.size ≤ j) ∧ Kept Fk wq wr) (fun _ t _ => (9 - intOf t).toNat)
                        case atStart => exact ⟨0, rk, Aq, nq, cq, _, by omega, rfl, rfl, rfl, HR5.out, fun j e => .inl (HFKR.out j e), HK5.out.mono fun j _ e => HFKR.out j e⟩
                        case round =>
                          obtain ⟨n, r, A, m, cc, xs, hn, rfl, rfl, rfl, hr, hfr6, hk6⟩ := hrel
                          have kb6 := hr.bound
                          by_cases hln : n < 9
                          · have HR6 := Lib.hid hr
                            have HFR6 := Lib.hid hfr6
                            have HK6 := Lib.hid hk6
                            clear hr hfr6 hk6
                            go_wp2_with (at_builtin; refine wpList_append_one (cs := [.int .i64 98]) tyInts rfl (.tmp 126) (.tmp 127) rfl rfl HR6.out rfl rfl rfl (by simp [Value.oneCell']) (by unfold maxLen; omega) (by omega) ?_; intro r7 A7 c7 w7' hr7 hk7 hn7; have HR7 := Lib.hid hr7; have HK7 := Lib.hid hk7; have HN7 := Lib.hid hn7; clear hr7 hk7 hn7)
                            go_roundw
                            case rel =>
                              refine ⟨n + 1, r7, A7, nq + n + 1, c7, _, by omega, rfl, by go_num, by omega, HR7.out, fun j e => ?_, HK6.out.step HK7.out fun j hj e => ?_⟩
                              · rcases HN7.out j e with h | h
                                · exact HFR6.out j h
                                · have := HK6.out.size; exact .inr (by omega)
                              · rcases HFR6.out j e with h | h
                                · exact h
                                · omega
                            case measure => simp [intOf]; omega
                          · obtain rfl : n = 9 := by omega
                            have HR6 := Lib.hid hr
                            have HFR6 := Lib.hid hfr6
                            have HK6 := Lib.hid hk6
                            clear hr hfr6 hk6
                            go_wp2_with fail
                            go_roundw
                            case rel =>
                              exact ⟨k + 1, _, by omega, by go_num, (HOUT3.out.kept HK6.out (fun j e => e.2)).mono (fun j e => e.1), HFQ.out.set _, HKK.out.trans (HK6.out.mono fun j _ e => (HFK.out j e).1)⟩
                            case measure => simp [intOf]; omega
                  · obtain rfl : p7 = k := by omega
                    obtain ⟨rc, xc, hrc, hfc⟩ := hq.row
                    change Row wq 1 rc p6 p7 p8 xc at hrc
                    have HKQ := Lib.hid (HKC.out.step hkk fun j hj e => HD3.out j e)
                    have HRAQ := Lib.hid (HRAC.out.of_kept (by decide) hkk fun j e e' => (HD1.out j (HFL.out j e)).2.2 e')
                    have HRBQ := Lib.hid (HRBC.out.of_kept (by decide) hkk fun j e e' => (HD2.out j (HFB.out j e)).2 e')
                    have HRC := Lib.hid hrc
                    have HFCR := Lib.hid hfc
                    clear hrc hfc
                    clear hq hfq hkk hbq
                    go_wp2_with fail
                    go_loopw [14, 15, 16, 22] (fun ta tb tc t wr => ∃ (n : Nat) (ra : Option Nat) (Aa' : Option Addr) (ca' : Nat) (xa : List Value) (rb' : Option Nat) (Ab' : Option Addr) (cb' : Nat) (xb' : List Value) (rc' : Option Nat) (Ac' : Option Addr) (cc' : Nat) (xc' : List Value), n ≤ 9 ∧ ta = .slice Aa' (p1 + n) ca' ∧ tb = .slice Ab' (p4 + n) cb' ∧ tc = .slice Ac' (p7 + n) cc' ∧ t = .int .i64 n ∧ Row wr 3 ra Aa' (p1 + n) ca' xa ∧ Row wr 1 rb' Ab' (p4 + n) cb' xb' ∧ Row wr 1 rc' Ac' (p7 + n) cc' xc' ∧ (∀ j, ra = some j → Fa j ∨ wo.heap.size ≤ j) ∧ (∀ j, rb' = some j → Fb j ∨ wo.heap.size ≤ j) ∧ (∀ j, rc' = some j → Fc j ∨ wo.heap.size ≤ j) ∧ (∀ j, ra = some j → rb' ≠ some j ∧ rc' ≠ some j) ∧ (∀ j, rb' = some j → rc' ≠ some j) ∧ Kept Fi wo wr) (fun _ _ _ t _ => (9 - intOf t).toNat)
                    case atStart => exact ⟨0, rl, p0, p2, _, rb, p3, p5, _, rc, p6, p8, _, by omega, rfl, rfl, rfl, rfl, HRAQ.out, HRBQ.out, HRC.out, fun j e => .inl (HFL.out j e), fun j e => .inl (HFB.out j e), fun j e => .inl (HFCR.out j e), fun j e => ⟨fun e' => (HD1.out j (HFL.out j e)).2.1 (HFB.out j e'), fun e' => (HD1.out j (HFL.out j e)).2.2 (HFCR.out j e')⟩, fun j e e' => (HD2.out j (HFB.out j e)).2 (HFCR.out j e'), HKQ.out⟩
                    case round =>
                      obtain ⟨n, ra, A7, c7, xa, rb', A8, c8, xb', rc', A9, c9, xc', hn, rfl, rfl, rfl, rfl, h1, h2, h3, f1, f2, f3, d1', d2', hk7⟩ := hrel
                      obtain ⟨wu, hwu⟩ : ∃ wu, wu = wr := ⟨_, rfl⟩
                      subst hwu
                      have kb1' := h1.bound
                      have kb2' := h2.bound
                      have kb3' := h3.bound
                      by_cases hln : n < 9
                      · have hsu := hk7.size
                        have HU1 := Lib.hid h1
                        have HU2 := Lib.hid h2
                        have HU3 := Lib.hid h3
                        have HV1 := Lib.hid f1
                        have HV2 := Lib.hid f2
                        have HV3 := Lib.hid f3
                        have HW1 := Lib.hid d1'
                        have HW2 := Lib.hid d2'
                        have HUK := Lib.hid hk7
                        have HSU := Lib.hid hsu
                        clear h1 h2 h3 f1 f2 f3 d1' d2' hk7 hsu
                        go_upto_region 40 with (at_builtin; refine wpList_append_one (cs := [.int .i64 0, .int .i64 0, .int .i64 98]) tyEnts rfl (.tmp 133) (.tmp 135) rfl rfl HU1.out rfl rfl rfl (by simp [Value.oneCell']) (by unfold maxLen; omega) (by omega) ?_; intro rx Ax cx wx hr hk hn; have HRx := Lib.hid hr; have HKx := Lib.hid hk; have HNx := Lib.hid hn; clear hr hk hn)
                        have HU2x := Lib.hid (HU2.out.of_kept (by decide) HKx.out fun j e e' => (HW1.out j e').1 e)
                        have HU3x := Lib.hid (HU3.out.of_kept (by decide) HKx.out fun j e e' => (HW1.out j e').2 e)
                        go_upto_region 41 with (at_builtin; refine wpList_append_one (cs := [.int .i64 98]) tyInts rfl (.tmp 137) (.tmp 138) rfl rfl HU2x.out rfl rfl rfl (by simp [Value.oneCell']) (by unfold maxLen; omega) (by omega) ?_; intro ry Ay cy wy hr hk hn; have HRy := Lib.hid hr; have HKy := Lib.hid hk; have HNy := Lib.hid hn; clear hr hk hn)
                        have HRx2 := Lib.hid (HRx.out.of_kept (by decide) HKy.out fun j e e' => by
                          rcases HNx.out j e with h | h
                          · exact (HW1.out j h).1 e'
                          · have := HU2.out.lt (by decide) j e'; omega)
                        have HU3y := Lib.hid (HU3x.out.of_kept (by decide) HKy.out fun j e e' => HW2.out j e' e)
                        go_wp2_with (at_builtin; refine wpList_append_one (cs := [.slice none 0 0]) tyQus rfl (.tmp 140) (.tmp 141) rfl rfl HU3y.out rfl rfl rfl (by simp [Value.oneCell']) (by unfold maxLen; omega) (by omega) ?_; intro rz Az cz wz hr hk hn; have HRz := Lib.hid hr; have HKz := Lib.hid hk; have HNz := Lib.hid hn; clear hr hk hn)
                        go_roundw
                        case rel =>
                          have l1 := HRx.out.lt (by decide)
                          have l2 := HRy.out.lt (by decide)
                          have l3 := HU2.out.lt (by decide)
                          have l4 := HU3.out.lt (by decide)
                          have s1 := HKx.out.size
                          have s2 := HKy.out.size
                          have s3 := HSU.out
                          have n1 := HNx.out
                          have n2 := HNy.out
                          have n3' := HNz.out
                          have q1 := HW1.out
                          have q2 := HW2.out
                          refine ⟨n + 1, rx, Ax, cx, _, ry, Ay, cy, _, rz, Az, cz, _, by omega, rfl, rfl, rfl, by go_num, HRx2.out.of_kept (by decide) HKz.out fun j e e' => ?_, HRy.out.of_kept (by decide) HKz.out fun j e e' => ?_, HRz.out, fun j e => ?_, fun j e => ?_, fun j e => ?_, fun j e => ⟨fun e' => ?_, fun e' => ?_⟩, fun j e e' => ?_, ?_⟩
                          · rcases n1 j e with h | h
                            · exact (q1 j h).2 e'
                            · have := l4 j e'; omega
                          · rcases n2 j e with h | h
                            · exact q2 j h e'
                            · have := l4 j e'; omega
                          · rcases n1 j e with h | h
                            · exact HV1.out j h
                            · exact .inr (by omega)
                          · rcases n2 j e with h | h
                            · exact HV2.out j h
                            · exact .inr (by omega)
                          · rcases n3' j e with h | h
                            · exact HV3.out j h
                            · exact .inr (by omega)
                          · rcases n2 j e' with h | h
                            · rcases n1 j e with h2 | h2
                              · exact (q1 j h2).1 h
                              · have := l3 j h; omega
                            · have := l1 j e; omega
                          · rcases n3' j e' with h | h
                            · rcases n1 j e with h2 | h2
                              · exact (q1 j h2).2 h
                              · have := l4 j h; omega
                            · have := l1 j e; omega
                          · rcases n3' j e' with h | h
                            · rcases n2 j e with h2 | h2
                              · exact q2 j h2 h
                              · have := l4 j h; omega
                            · have := l2 j e; omega
                          · refine ((HUK.out.step HKx.out fun j hj e => ?_).step HKy.out fun j hj e => ?_).step HKz.out fun j hj e => ?_
                            · rcases HV1.out j e with h | h
                              · exact (HD1.out j h).1
                              · omega
                            · rcases HV2.out j e with h | h
                              · exact (HD2.out j h).1
                              · omega
                            · rcases HV3.out j e with h | h
                              · exact HD3.out j h
                              · omega
                        case measure => simp [intOf]; omega
                      · obtain rfl : n = 9 := by omega
                        have hkF : Kept F1 w14 wu := HKR.out.step hk7 fun j hj e => (HFJ.out j e).1
                        have t1 := (HALLK.out wu (hkF.mono fun k _ e => (HF1.out k e).1)).1
                        have hou := HOUT.out.kept hk7 fun j e => e.2
                        have hng : ¬ Fi g := fun e => (HFJ.out g e).2 rfl
                        have hgl : g < wo.heap.size := by have := HGG.out; have := HSZB.out; have := HKR.out.size; omega
                        have hce := fun j (hj : j < 6) => (show wu.cell? ⟨g, o + i * 6 + j, none⟩ = _ ∧ wu.frozen? ⟨g, o + i * 6 + j, none⟩ = false from ⟨(hk7.cell (p := ⟨g, o + i * 6 + j, none⟩) hgl hng).trans (HCELL.out j hj).1, (hk7.frozen (p := ⟨g, o + i * 6 + j, none⟩) hgl hng).trans (HCELL.out j hj).2⟩)
                        have x0 := (hce 0 (by decide)).1
                        have f0 := (hce 0 (by decide)).2
                        have x1 := (hce 1 (by decide)).1
                        have f1 := (hce 1 (by decide)).2
                        have x2 := (hce 2 (by decide)).1
                        have f2 := (hce 2 (by decide)).2
                        have x3 := (hce 3 (by decide)).1
                        have f3 := (hce 3 (by decide)).2
                        have x4 := (hce 4 (by decide)).1
                        have f4 := (hce 4 (by decide)).2
                        have x5 := (hce 5 (by decide)).1
                        have f5 := (hce 5 (by decide)).2
                        simp only [partC, Nat.add_zero, List.getElem?_toArray, List.getElem?_cons_zero, List.getElem?_cons_succ] at x0 x1 x2 x3 x4 x5 f0
                        have HLI : Hid (i < L.length) := Lib.hid (by have := HL.out.len; omega)
                        have HOU := Lib.hid hou
                        have HKF := Lib.hid hkF
                        clear hou hkF
                        clear hce hk7
                        go_wp2_with fail
                        go_roundw
                        case rel =>
                          have hset := HOU.out.setCells (O := partO.or) (i := i) (x := .inr zPartC) (Fx := fun _ => False) (by rw [List.length_set]; exact HLI.out) rfl ⟨rfl, rfl⟩ (fun _ h => h.elim)
                          exact ⟨i + 1, _, by omega, by go_num, hset.mono fun k e => e.elim (fun h => h.1) (fun h => h.elim), HFR.out.set2 _ _, HKF.out.trans (Kept.setCells (G := F1) zPartC _ _ (Kept.refl _ _) (.inr HGF.out))⟩
                        case measure => simp [intOf]; omega
      · obtain rfl : n3 = i := by omega
        obtain ⟨wd, hwd⟩ : ∃ wd, wd = wo := ⟨_, rfl⟩
        subst hwd
        have HQD := Lib.hid (HQB.out.kept hkr fun k e e' => (HF1.out k e').2 e)
        have HKD := Lib.hid (hkr.mono fun k _ e => (HF1.out k e).1)
        have HSZD := Lib.hid hkr.size
        clear hL hfr hkr
        go_wp2_with fail
        go_loopw [23] (fun t wr => ∃ (i : Nat) (L : List (Process ⊕ List Value)), i ≤ m3 ∧ t = .int .i64 i ∧ OSl procO.or wr F2 E3 m3 d3 L ∧ From (fun x : Process => x.lanes.length ≤ 1048576 ∧ ∀ l ∈ x.lanes, l.values.length ≤ 1048576 ∧ l.waiters.length ≤ 1048576) i L ∧ Kept F2 wd wr) (fun t _ => (m3 - intOf t).toNat)
        case atStart => exact ⟨0, _, Nat.zero_le _, rfl, HQD.out.or_of, From.all (fun x hx => HFW.out.lanes x hx), Kept.refl _ _⟩
        case round =>
          obtain ⟨i, L, hi, rfl, hL, hfr, hkr⟩ := hrel
          obtain ⟨wo, hwo⟩ : ∃ wo, wo = wr := ⟨_, rfl⟩
          subst hwo
          have hkG : Kept (fun k => w8.heap.size ≤ k ∧ k < w9.heap.size) w14 wo := HKD.out.step hkr fun k _ e => HF2.out k e
          have t2 := (HALLK.out wo hkG).2
          by_cases hlt : i < m3
          · have hiL : i < L.length := by have := hL.len; omega
            obtain ⟨x, hx, hsx⟩ := hfr i hiL (Nat.le_refl _)
            obtain ⟨g, o, cs, Fi, rfl, hgF, hown, hFi, hout, hcell⟩ := hL.out i hiL hx
            obtain ⟨p0, p1, p2, rfl, hln⟩ := hown
            change ∀ j', j' < 15 → wo.cell? ⟨g, o + i * 15 + j', none⟩ = _ ∧ wo.frozen? ⟨g, o + i * 15 + j', none⟩ = false at hcell
            have x14 := (hcell 14 (by decide)).1
            have HCELL := Lib.hid hcell
            simp only [procC, List.getElem?_toArray, List.getElem?_cons_zero, List.getElem?_cons_succ] at x14
            obtain ⟨hs1, hs2⟩ := hsx
            have m1' : p1 ≤ 1048576 := by have := hln.len; omega
            have k1 := hln.bound
            have HLO := Lib.hid hln.or_of
            have HLF : Hid (From (fun l : Lane => l.values.length ≤ 1048576 ∧ l.waiters.length ≤ 1048576) 0 (x.lanes.map (Sum.inl (β := List Value)))) := Lib.hid (From.all hs2)
            have HGL : Hid (g < wo.heap.size) := Lib.hid (by have := HF2.out g hgF; have := HSZB.out; have := hkG.size; omega)
            have e2 : (0 : Int) ≤ (i : Int) := by omega
            have e3 : (i : Int) < (m3 : Int) := by omega
            clear hx
            have HKR := Lib.hid hkr
            have HL := Lib.hid hL
            have HFR := Lib.hid hfr
            have HGF := Lib.hid hgF
            have HFJ := Lib.hid hFi
            have HOUT := Lib.hid hout
            have HKG := Lib.hid hkG
            clear hkr hL hfr hgF hFi hout hkG
            clear hcell hs1 hs2 hln hiL
            go_wp2_with fail
            go_loopw [25] (fun t wr => ∃ (k : Nat) (Lq : List (Lane ⊕ List Value)), k ≤ p1 ∧ t = .int .i64 k ∧ OSl laneO.or wr Fi p0 p1 p2 Lq ∧ From (fun l : Lane => l.values.length ≤ 1048576 ∧ l.waiters.length ≤ 1048576) k Lq ∧ Kept Fi wo wr) (fun t _ => (p1 - intOf t).toNat)
            case atStart => exact ⟨0, _, Nat.zero_le _, rfl, HLO.out, HLF.out, Kept.refl _ _⟩
            case round =>
              obtain ⟨k, Lq, hk, rfl, hq, hfq, hkk⟩ := hrel
              obtain ⟨wq, hwq⟩ : ∃ wq, wq = wr := ⟨_, rfl⟩
              subst hwq
              by_cases hlk : k < p1
              · have hkL : k < Lq.length := by have := hq.len; omega
                obtain ⟨q, hqx, hqs1, hqs2⟩ := hfq k hkL (Nat.le_refl _)
                obtain ⟨g3, o3, cs3, Fk, rfl, hgF3, hown3, hFk, hout3, hcell3⟩ := hq.out k hkL hqx
                obtain ⟨Av, nv, cv, Aw, nw, cw, Fv, Fw, rfl, hv, hw, -, -, hv1, hw1⟩ := hown3
                change ∀ j', j' < 4 → wq.cell? ⟨g3, o3 + k * 4 + j', none⟩ = _ ∧ wq.frozen? ⟨g3, o3 + k * 4 + j', none⟩ = false at hcell3
                have u0 := (hcell3 0 (by decide)).1
                have u1 := (hcell3 1 (by decide)).1
                simp only [Nat.add_zero, List.getElem?_toArray, List.getElem?_cons_zero, List.getElem?_cons_succ] at u0 u1
                have m4 : nv ≤ 1048576 := by have := hv.len; omega
                have m5 : nw ≤ 1048576 := by have := hw.len; omega
                have k4 := hv.bound
                have k5 := hw.bound
                obtain ⟨rv, xv, hrv, hfv⟩ := hv.row
                obtain ⟨rw_, xw, hrw, hfw⟩ := hw.row
                change Row wq 1 rv Av nv cv xv at hrv
                change Row wq 2 rw_ Aw nw cw xw at hrw
                have HC3 := Lib.hid hcell3
                have HG3 : Hid (g3 < wq.heap.size) := Lib.hid (lt_of_cell u0).1
                have e4 : (0 : Int) ≤ (k : Int) := by omega
                have e5 : (k : Int) < (p1 : Int) := by omega
                have hdr : New wq wq.drew := (Kept.refl _ _).drew
                have HQQ := Lib.hid hq
                have HFQ := Lib.hid hfq
                have HKK := Lib.hid hkk
                have HFK := Lib.hid hFk
                have HOUT3 := Lib.hid hout3
                have HRV := Lib.hid hrv
                have HRW := Lib.hid hrw
                have HFV := Lib.hid hfv
                have HFW_ := Lib.hid hfw
                have HV1 := Lib.hid hv1
                have HW1 := Lib.hid hw1
                have HGF3 := Lib.hid hgF3
                have HDR := Lib.hid hdr
                clear hq hfq hkk hFk hout3 hrv hrw hfv hfw hv1 hw1 hgF3 hdr
                clear hcell3 hqx hqs1 hqs2 hkL hv hw
                go_wp2_with fail
                go_region_held3 (fun W => W.cell? ⟨g3, o3 + k * 4, none⟩ = some (.slice Av nv cv) ∧ W.cell? ⟨g3, o3 + k * 4 + 1, none⟩ = some (.slice Aw nw cw)) (first | (refine ⟨?_, ?_⟩ <;> with_reducible assumption) | go_keep) ((fail))
                generalize wq.drew = wv at *
                have HRV2 := Lib.hid (HRV.out.new (by decide) HDR.out)
                have HRW2 := Lib.hid (HRW.out.new (by decide) HDR.out)
                go_wp2_with fail
                go_loopw [28] (fun t wr => ∃ (k : Nat) (xs : List Value), k ≤ nv ∧ t = .int .i64 k ∧ Row wr 1 rv Av nv cv xs ∧ Kept (fun j => rv = some j) wv wr) (fun t _ => (nv - intOf t).toNat)
                case atStart => exact ⟨0, _, Nat.zero_le _, rfl, HRV2.out, Kept.refl _ _⟩
                case round =>
                  obtain ⟨kD, xsD, hk, rfl, hrkD, hkkD⟩ := hrel
                  have kbD := hrkD.bound
                  by_cases hlk : kD < nv
                  · obtain ⟨gg, oo, e1, rfl, hc⟩ := hrkD.at_index (k := kD) hlk
                    obtain ⟨v, qa, qb, qc⟩ := hc 0 (by decide)
                    rw [show oo + kD * 1 + 0 = oo + kD from by omega] at qb qc
                    have e4 : (0 : Int) ≤ (kD : Int) := by omega
                    have e5 : (kD : Int) < (nv : Int) := by omega
                    have HRK := Lib.hid hrkD
                    have HKK := Lib.hid hkkD
                    have HE1 := Lib.hid e1
                    clear hrkD hkkD e1
                    clear hc qa
                    go_wp2_with fail
                    go_roundw
                    case rel =>
                      refine ⟨kD + 1, xsD.set (kD * 1 + 0) (.int .i64 99), by omega, by go_num, ?_, HKK.out.setCell (.inr HE1.out) _⟩
                      have h := HRK.out.set (j := kD * 1 + 0) rfl (by omega) (.int .i64 99)
                      rw [show oo + (kD * 1 + 0) = oo + kD from by omega] at h
                      exact h
                    case measure => simp [intOf]; omega
                  · obtain rfl : nv = kD := by omega
                    obtain ⟨wx, hwx⟩ : ∃ wx, wx = wr := ⟨_, rfl⟩
                    subst hwx
                    have HKX : Hid (Kept Fk wq wx) := Lib.hid ((HDR.out.mono fun _ _ h => h.elim).step hkkD fun j hj e => (HV1.out j (HFV.out j e)).1)
                    have HRWX := Lib.hid (HRW2.out.of_kept (by decide) hkkD fun j e e' => (HV1.out j (HFV.out j e')).2 (HFW_.out j e))
                    have HRVX := Lib.hid hrkD
                    clear hrkD
                    clear hkkD
                    go_wp2_with fail
                    go_loopw [29] (fun t wr => ∃ (k : Nat) (xs : List Value), k ≤ nw ∧ t = .int .i64 k ∧ Row wr 2 rw_ Aw nw cw xs ∧ Kept (fun j => rw_ = some j) wx wr) (fun t _ => (nw - intOf t).toNat)
                    case atStart => exact ⟨0, _, Nat.zero_le _, rfl, HRWX.out, Kept.refl _ _⟩
                    case round =>
                      obtain ⟨kE, xsE, hk, rfl, hrkE, hkkE⟩ := hrel
                      have kbE := hrkE.bound
                      by_cases hlk : kE < nw
                      · obtain ⟨gg, oo, e1, rfl, hc⟩ := hrkE.at_index (k := kE) hlk
                        obtain ⟨v, qa, qb, qc⟩ := hc 0 (by decide)
                        rw [show oo + kE * 2 + 0 = oo + kE * 2 from by omega] at qb qc
                        have e4 : (0 : Int) ≤ (kE : Int) := by omega
                        have e5 : (kE : Int) < (nw : Int) := by omega
                        have HRK := Lib.hid hrkE
                        have HKK := Lib.hid hkkE
                        have HE1 := Lib.hid e1
                        clear hrkE hkkE e1
                        clear hc qa
                        go_wp2_with fail
                        go_roundw
                        case rel =>
                          refine ⟨kE + 1, xsE.set (kE * 2 + 0) (.int .i64 99), by omega, by go_num, ?_, HKK.out.setCell (.inr HE1.out) _⟩
                          have h := HRK.out.set (j := kE * 2 + 0) rfl (by omega) (.int .i64 99)
                          rw [show oo + (kE * 2 + 0) = oo + kE * 2 from by omega] at h
                          exact h
                        case measure => simp [intOf]; omega
                      · obtain rfl : nw = kE := by omega
                        obtain ⟨wy, hwy⟩ : ∃ wy, wy = wr := ⟨_, rfl⟩
                        subst hwy
                        have HKY : Hid (Kept Fk wq wy) := Lib.hid (HKX.out.step hkkE fun j hj e => HW1.out j (HFW_.out j e))
                        have HRVY := Lib.hid (HRVX.out.of_kept (by decide) hkkE fun j e e' => (HV1.out j (HFV.out j e)).2 (HFW_.out j e'))
                        have HRWY := Lib.hid hrkE
                        clear hrkE
                        clear hkkE
                        go_wp2_with fail
                        go_loopw [26, 27, 30] (fun ta tb t wr => ∃ (n : Nat) (ra : Option Nat) (Aa' : Option Addr) (ca' : Nat) (xa : List Value) (rb' : Option Nat) (Ab' : Option Addr) (cb' : Nat) (xb' : List Value), n ≤ 9 ∧ ta = .slice Aa' (nv + n) ca' ∧ tb = .slice Ab' (nw + n) cb' ∧ t = .int .i64 n ∧ Row wr 1 ra Aa' (nv + n) ca' xa ∧ Row wr 2 rb' Ab' (nw + n) cb' xb' ∧ (∀ j, ra = some j → Fv j ∨ wq.heap.size ≤ j) ∧ (∀ j, rb' = some j → Fw j ∨ wq.heap.size ≤ j) ∧ (∀ j, ra = some j → rb' ≠ some j) ∧ Kept Fk wq wr) (fun _ _ t _ => (9 - intOf t).toNat)
                        case atStart => exact ⟨0, rv, Av, cv, _, rw_, Aw, cw, _, by omega, rfl, rfl, rfl, HRVY.out, HRWY.out, fun j e => .inl (HFV.out j e), fun j e => .inl (HFW_.out j e), fun j e e' => (HV1.out j (HFV.out j e)).2 (HFW_.out j e'), HKY.out⟩
                        case round =>
                          obtain ⟨n, ra, A7, c7, xa, rb', A8, c8, xb', hn, rfl, rfl, rfl, h1, h2, f1, f2, d1', hk7⟩ := hrel
                          obtain ⟨wu, hwu⟩ : ∃ wu, wu = wr := ⟨_, rfl⟩
                          subst hwu
                          have kb1' := h1.bound
                          have kb2' := h2.bound
                          by_cases hln : n < 9
                          · have hsu := hk7.size
                            have HU1 := Lib.hid h1
                            have HU2 := Lib.hid h2
                            have HN1 := Lib.hid f1
                            have HN2 := Lib.hid f2
                            have HD1 := Lib.hid d1'
                            have HUK := Lib.hid hk7
                            have HSU := Lib.hid hsu
                            clear h1 h2 f1 f2 d1' hk7 hsu
                            go_upto_region 63 with (at_builtin; refine wpList_append_one (cs := [.int .i64 98]) tyVals rfl (.tmp 200) (.tmp 201) rfl rfl HU1.out rfl rfl rfl (by simp [Value.oneCell']) (by unfold maxLen; omega) (by omega) ?_; intro rx Ax cx wx hr hk hn; have HRx := Lib.hid hr; have HKx := Lib.hid hk; have HNx := Lib.hid hn; clear hr hk hn)
                            have HU2x := Lib.hid (HU2.out.of_kept (by decide) HKx.out fun j e e' => HD1.out j e' e)
                            go_wp2_with (at_builtin; refine wpList_append_one (cs := [.int .i64 98, .int .i64 0]) tyWaits rfl (.tmp 203) (.tmp 205) rfl rfl HU2x.out rfl rfl rfl (by simp [Value.oneCell']) (by unfold maxLen; omega) (by omega) ?_; intro rz Az cz wz hr hk hn; have HRz := Lib.hid hr; have HKz := Lib.hid hk; have HNz := Lib.hid hn; clear hr hk hn)
                            go_roundw
                            case rel =>
                              have l1 := HRx.out.lt (by decide)
                              have l3 := HU2.out.lt (by decide)
                              have s1 := HKx.out.size
                              have s3 := HSU.out
                              have n1 := HNx.out
                              have n3' := HNz.out
                              have q1 := HD1.out
                              refine ⟨n + 1, rx, Ax, cx, _, rz, Az, cz, _, by omega, rfl, rfl, by go_num, HRx.out.of_kept (by decide) HKz.out fun j e e' => ?_, HRz.out, fun j e => ?_, fun j e => ?_, fun j e e' => ?_, ?_⟩
                              · rcases n1 j e with h | h
                                · exact q1 j h e'
                                · have := l3 j e'; omega
                              · rcases n1 j e with h | h
                                · exact HN1.out j h
                                · exact .inr (by omega)
                              · rcases n3' j e with h | h
                                · exact HN2.out j h
                                · exact .inr (by omega)
                              · rcases n3' j e' with h | h
                                · rcases n1 j e with h2 | h2
                                  · exact q1 j h2 h
                                  · have := l3 j h; omega
                                · have := l1 j e; omega
                              · refine (HUK.out.step HKx.out fun j hj e => ?_).step HKz.out fun j hj e => ?_
                                · rcases HN1.out j e with h | h
                                  · exact (HV1.out j h).1
                                  · omega
                                · rcases HN2.out j e with h | h
                                  · exact HW1.out j h
                                  · omega
                            case measure => simp [intOf]; omega
                          · obtain rfl : n = 9 := by omega
                            have hng : ¬ Fk g3 := fun e => (HFK.out g3 e).2 rfl
                            have hce := fun j (hj : j < 4) => (show wu.cell? ⟨g3, o3 + k * 4 + j, none⟩ = _ ∧ wu.frozen? ⟨g3, o3 + k * 4 + j, none⟩ = false from ⟨(hk7.cell (p := ⟨g3, o3 + k * 4 + j, none⟩) HG3.out hng).trans (HC3.out j hj).1, (hk7.frozen (p := ⟨g3, o3 + k * 4 + j, none⟩) HG3.out hng).trans (HC3.out j hj).2⟩)
                            have x0 := (hce 0 (by decide)).1
                            have q0 := (hce 0 (by decide)).2
                            have x1 := (hce 1 (by decide)).1
                            have q1 := (hce 1 (by decide)).2
                            have x2 := (hce 2 (by decide)).1
                            have q2 := (hce 2 (by decide)).2
                            have x3 := (hce 3 (by decide)).1
                            have q3 := (hce 3 (by decide)).2
                            simp only [Nat.add_zero, List.getElem?_toArray, List.getElem?_cons_zero, List.getElem?_cons_succ] at x0 x1 x2 x3 q0
                            have hou := HOUT3.out.kept hk7 fun j e => e.2
                            have HLI : Hid (k < Lq.length) := Lib.hid (by have := HQQ.out.len; omega)
                            have HOU := Lib.hid hou
                            have HKU := Lib.hid hk7
                            clear hou hk7
                            clear hce
                            go_wp2_with fail
                            go_roundw
                            case rel =>
                              have hset := HOU.out.setCells (O := laneO.or) (i := k) (x := .inr [.slice none 0 0, .slice none 0 0, .int .i64 0, .int .i64 0]) (Fx := fun _ => False) (by rw [List.length_set]; exact HLI.out) rfl ⟨rfl, rfl⟩ (fun _ h => h.elim)
                              exact ⟨k + 1, _, by omega, by go_num, hset.mono fun k e => e.elim (fun h => h.1) (fun h => h.elim), HFQ.out.set2 _ _, (HKK.out.step HKU.out fun j hj e => (HFK.out j e).1).trans (Kept.setCells (G := Fi) [.slice none 0 0, .slice none 0 0, .int .i64 0, .int .i64 0] _ _ (Kept.refl _ _) (.inr HGF3.out))⟩
                            case measure => simp [intOf]; omega
              · obtain rfl : p1 = k := by omega
                obtain ⟨rc, xc, hrc, hfc⟩ := hq.row
                change Row wq 4 rc p0 p1 p2 xc at hrc
                have HRC := Lib.hid hrc
                have HFC := Lib.hid hfc
                have HKQ := Lib.hid hkk
                clear hrc hfc hkk
                clear hq hfq
                go_wp2_with fail
                go_loopw [24, 31] (fun q t wr => ∃ (n : Nat) (r : Option Nat) (A : Option Addr) (cc : Nat) (xs : List Value), n ≤ 9 ∧ q = .slice A (p1 + n) cc ∧ t = .int .i64 n ∧ Row wr 4 r A (p1 + n) cc xs ∧ (∀ j, r = some j → Fi j ∨ wo.heap.size ≤ j) ∧ Kept Fi wo wr) (fun _ t _ => (9 - intOf t).toNat)
                case atStart => exact ⟨0, rc, p0, p2, _, by omega, rfl, rfl, HRC.out, fun j e => .inl (HFC.out j e), HKQ.out⟩
                case round =>
                  obtain ⟨n, r, A, cc, xs, hn, rfl, rfl, hr, hfr6, hk6⟩ := hrel
                  obtain ⟨wu, hwu⟩ : ∃ wu, wu = wr := ⟨_, rfl⟩
                  subst hwu
                  have kb6 := hr.bound
                  by_cases hln : n < 9
                  · have hsu := hk6.size
                    have HR6 := Lib.hid hr
                    have HFR6 := Lib.hid hfr6
                    have HK6 := Lib.hid hk6
                    have HSU := Lib.hid hsu
                    clear hr hfr6 hk6 hsu
                    go_wp2_with (at_builtin; refine wpList_append_one (cs := [.slice none 0 0, .slice none 0 0, .int .i64 0, .int .i64 0]) tyLanes rfl (.tmp 215) (.tmp 217) rfl rfl HR6.out rfl rfl rfl (by simp [Value.oneCell']) (by unfold maxLen; omega) (by omega) ?_; intro r7 A7 c7 wz hr7 hk7 hn7; have HR7 := Lib.hid hr7; have HK7 := Lib.hid hk7; have HN7 := Lib.hid hn7; clear hr7 hk7 hn7)
                    go_roundw
                    case rel =>
                      have s3 := HSU.out
                      refine ⟨n + 1, r7, A7, c7, _, by omega, rfl, by go_num, HR7.out, fun j e => ?_, HK6.out.step HK7.out fun j hj e => ?_⟩
                      · rcases HN7.out j e with h | h
                        · exact HFR6.out j h
                        · exact .inr (by omega)
                      · rcases HFR6.out j e with h | h
                        · exact h
                        · omega
                    case measure => simp [intOf]; omega
                  · obtain rfl : n = 9 := by omega
                    have hkF : Kept F2 wd wu := HKR.out.step hk6 fun j hj e => (HFJ.out j e).1
                    have t2 := (HALLK.out wu (HKD.out.step hkF fun k _ e => HF2.out k e)).2
                    have hou := HOUT.out.kept hk6 fun j e => e.2
                    have hng : ¬ Fi g := fun e => (HFJ.out g e).2 rfl
                    have hce := fun j (hj : j < 15) => (show wu.cell? ⟨g, o + i * 15 + j, none⟩ = _ ∧ wu.frozen? ⟨g, o + i * 15 + j, none⟩ = false from ⟨(hk6.cell (p := ⟨g, o + i * 15 + j, none⟩) HGL.out hng).trans (HCELL.out j hj).1, (hk6.frozen (p := ⟨g, o + i * 15 + j, none⟩) HGL.out hng).trans (HCELL.out j hj).2⟩)
                    have x0 := (hce 0 (by decide)).1
                    have q0 := (hce 0 (by decide)).2
                    have x1 := (hce 1 (by decide)).1
                    have q1 := (hce 1 (by decide)).2
                    have x2 := (hce 2 (by decide)).1
                    have q2 := (hce 2 (by decide)).2
                    have x3 := (hce 3 (by decide)).1
                    have q3 := (hce 3 (by decide)).2
                    have x4 := (hce 4 (by decide)).1
                    have q4 := (hce 4 (by decide)).2
                    have x5 := (hce 5 (by decide)).1
                    have q5 := (hce 5 (by decide)).2
                    have x6 := (hce 6 (by decide)).1
                    have q6 := (hce 6 (by decide)).2
                    have x7 := (hce 7 (by decide)).1
                    have q7 := (hce 7 (by decide)).2
                    have x8 := (hce 8 (by decide)).1
                    have q8 := (hce 8 (by decide)).2
                    have x9 := (hce 9 (by decide)).1
                    have q9 := (hce 9 (by decide)).2
                    have x10 := (hce 10 (by decide)).1
                    have q10 := (hce 10 (by decide)).2
                    have x11 := (hce 11 (by decide)).1
                    have q11 := (hce 11 (by decide)).2
                    have x12 := (hce 12 (by decide)).1
                    have q12 := (hce 12 (by decide)).2
                    have x13 := (hce 13 (by decide)).1
                    have q13 := (hce 13 (by decide)).2
                    have x14 := (hce 14 (by decide)).1
                    have q14 := (hce 14 (by decide)).2
                    simp only [procC, Nat.add_zero, List.getElem?_toArray, List.getElem?_cons_zero, List.getElem?_cons_succ] at x0 x1 x2 x3 x4 x5 x6 x7 x8 x9 x10 x11 x12 x13 x14 q0
                    have HLI : Hid (i < L.length) := Lib.hid (by have := HL.out.len; omega)
                    have HOU := Lib.hid hou
                    have HKF := Lib.hid hkF
                    clear hou hkF
                    clear hce hk6
                    go_wp2_with fail
                    go_roundw
                    case rel =>
                      have hset := HOU.out.setCells (O := procO.or) (i := i) (x := .inr zProcC) (Fx := fun _ => False) (by rw [List.length_set]; exact HLI.out) rfl ⟨rfl, rfl⟩ (fun _ h => h.elim)
                      exact ⟨i + 1, _, by omega, by go_num, hset.mono fun k e => e.elim (fun h => h.1) (fun h => h.elim), HFR.out.set2 _ _, HKF.out.trans (Kept.setCells (G := F2) zProcC _ _ (Kept.refl _ _) (.inr HGF.out))⟩
                    case measure => simp [intOf]; omega
          · obtain rfl : m3 = i := by omega
            have g1 := HBE.out
            have g2 := HBL.out
            have g4 := HZ4.out
            have g5 := HZ5.out
            have g7 := HZ7.out
            have g8 := HZ8.out
            have g9 := HZ9.out
            have g10 := HZ10.out
            have g11 := HZ11.out
            have g12 := HZ12.out
            have g14 := HM14.out.size
            have n12 := HK12.out.trans HM14.out
            have n10 := HK10.out.trans n12
            have n8 := HK8.out.trans n10
            have n0 := HN10.out.trans n12
            have hS : repState.cells wo wo.heap.size s [.int .i64 s.tick, .slice Aa na ca, .slice Ab nb cb] := repState.more (by have := hkG.size; omega) (repState.stays (fun p hp => (hkG.cell (by omega) (fun e => by have := e.1; omega)).trans (n0.cell (by omega) id)) HSO.out)
            have hO : repState.cells wo wo.heap.size s [.int .i64 s.tick, .slice A1 n1 c1, .slice E1 m1 d1] := repState.more (by have := hkG.size; omega) (repState.stays (fun p hp => (hkG.cell (by omega) (fun e => by have := e.1; omega)).trans ((HAL1.out.trans n8).cell hp id)) HST1.out)
            have hW : repState.cells wo wo.heap.size (ofS c s a) [.int .i64 s.tick, .slice A2 n2 c2, .slice E2 m2 d2] := repState.more (by have := hkG.size; omega) (repState.stays (fun p hp => (hkG.cell (by omega) (fun e => by have := e.1; omega)).trans ((HAL2.out.trans n10).cell hp id)) HST2.out)
            have hT : repState.cells wo wo.heap.size (ofS c s a) [.int .i64 s.tick, .slice A4 n4 c4, .slice E4 m4 d4] := HR4.out _ (fun k e => Nat.lt_trans e.2 g10) wo (((HAL4.out.trans HM14.out).mono fun _ _ h => h.elim).step hkG fun k _ e => e)
            have HCF2 : Hid (∀ W, New wo W → (W.cell? ⟨b + 1, 0, none⟩ = some (.int .i64 s.tick) ∧ W.cell? ⟨b + 1, 1, none⟩ = some (.slice Aa na ca) ∧ W.cell? ⟨b + 1, 2, none⟩ = some (.slice Ab nb cb)) ∧ (W.cell? ⟨w4.heap.size, 0, none⟩ = some (.int .i64 s.tick) ∧ W.cell? ⟨w4.heap.size, 1, none⟩ = some (.slice A1 n1 c1) ∧ W.cell? ⟨w4.heap.size, 2, none⟩ = some (.slice E1 m1 d1)) ∧ W.cell? ⟨w7.heap.size, 0, none⟩ = some (.int .i64 s.tick) ∧ W.cell? ⟨w7.heap.size, 1, none⟩ = some (.slice A2 n2 c2) ∧ W.cell? ⟨w7.heap.size, 2, none⟩ = some (.slice E2 m2 d2) ∧ W.cell? ⟨w11.heap.size, 0, none⟩ = some (.int .i64 s.tick) ∧ W.cell? ⟨w11.heap.size, 1, none⟩ = some (.slice A4 n4 c4) ∧ W.cell? ⟨w11.heap.size, 2, none⟩ = some (.slice E4 m4 d4)) := Lib.hid fun W hW => by
              have h0 := (B1.out.kept (HK5.out.trans n8) id).kept (hkG.trans (hW.mono fun _ _ h => h.elim)) (fun e => by have := e.1; omega)
              have h1 := (BT1.out.kept n8 id).kept (hkG.trans (hW.mono fun _ _ h => h.elim)) (fun e => by have := e.1; omega)
              have h2 := (BT2.out.kept n10 id).kept (hkG.trans (hW.mono fun _ _ h => h.elim)) (fun e => by have := e.1; omega)
              have h4 := (BT4.out.kept HM14.out id).kept (hkG.trans (hW.mono fun _ _ h => h.elim)) (fun e => by have := e.2; omega)
              exact ⟨⟨h0.cell 0, h0.cell 1, h0.cell 2⟩, ⟨h1.cell 0, h1.cell 1, h1.cell 2⟩, h2.cell 0, h2.cell 1, h2.cell 2, h4.cell 0, h4.cell 1, h4.cell 2⟩
            have hx1 := rsame_state hO hS (Nat.le_refl _)
            rw [eqb_true rfl] at hx1
            have HX2 := Lib.hid fun W (hW2 : New wo W) => rsame_state (repState.more hW2.size (repState.stays (fun p hp => hW2.cell hp id) hT)) (repState.more hW2.size (repState.stays (fun p hp => hW2.cell hp id) hW)) (Nat.le_refl _)
            rw [eqb_true rfl] at HX2
            have HEND : Hid (New w wo) := Lib.hid (n0.step hkG fun k hk e => by have := e.1; omega)
            obtain ⟨⟨z0, z1, z2⟩, ⟨r0, r1, r2⟩, x0, x1, x2, q0, q1, q2⟩ := HCF2.out wo (Kept.refl _ _)
            have HX1 := Lib.hid hx1
            clear hx1
            clear g1 g2 g4 g5 g7 g8 g9 g10 g11 g12 g14 n12 n10 n8 n0 hS hO hW hT hL hfr hkr hkG
            go_wp2_with fail
            refine HX1.out.mono ?_
            rintro e wa ⟨rfl, hma⟩
            obtain ⟨⟨z0, z1, z2⟩, ⟨r0, r1, r2⟩, x0, x1, x2, q0, q1, q2⟩ := HCF2.out wa hma
            have HMA := Lib.hid hma
            clear hma
            go_wp2_with fail
            refine (HX2.out _ HMA.out).mono ?_
            rintro e wb ⟨rfl, hmb⟩
            have HMB := Lib.hid hmb
            clear hmb
            go_wp2_with fail
            go_ret
            exact ⟨rfl, HEND.out.trans (HMA.out.trans HMB.out)⟩
end Go.Proofs.Ytgdmajockejpgaa.View
