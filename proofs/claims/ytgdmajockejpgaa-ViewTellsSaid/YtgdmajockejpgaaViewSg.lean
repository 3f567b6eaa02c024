/- The walk of ViewTells (layer 18). -/
import Derived.Test.YtgdmajockejpgaaViewSe
import Derived.Test.YtgdmajockejpgaaViewSf
import Derived.Test.YtgdmajockejpgaaViewSd
import Derived.Test.YtgdmajockejpgaaViewX
import Derived.Test.YtgdmajockejpgaaViewW
import Derived.Deep.RegionHeld3
namespace Go.Proofs.Ytgdmajockejpgaa.View
open Go.RowKit Go.Fb
set_option linter.unusedVariables false
set_option maxHeartbeats 16000000 in
set_option maxRecDepth 100000 in
theorem tells_walk {w : World} {c : Config} {s t : State} {v0 v1 v2 v3 v4 v5 v6 s0 s1 s2 r0 r1 r2 : Value} (h : repConf.cells w w.heap.size c [v0, v1, v2, v3, v4, v5, v6]) (hs : repState.cells w w.heap.size s [s0, s1, s2]) (hz : SmallS s) (ht : repState.cells w w.heap.size t [r0, r1, r2]) (hzt : SmallS t) (p a : Int) (hwa : wfU a) :
    Calls Try.prog 3 #[.agg #[v0, v1, v2, v3, v4, v5, v6], .agg #[s0, s1, s2], .agg #[r0, r1, r2], .int .i64 p, .int .u64 a] w fun e w' => e = .returned (.bool true) ∧ New w w' := by
  have HCF : Hid (∀ W, New w W → repConf.cells W W.heap.size c [v0, v1, v2, v3, v4, v5, v6]) := Lib.hid fun W hW => repConf.more hW.size (repConf.stays (fun p hp => hW.cell hp id) h)
  have HSF : Hid (∀ W, New w W → repState.cells W W.heap.size s [s0, s1, s2]) := Lib.hid fun W hW => repState.more hW.size (repState.stays (fun p hp => hW.cell hp id) hs)
  have HTF : Hid (∀ W, New w W → repState.cells W W.heap.size t [r0, r1, r2]) := Lib.hid fun W hW => repState.more hW.size (repState.stays (fun p hp => hW.cell hp id) ht)
  obtain ⟨Al, nl, cl, u1, u2, u3, u4, u5, Ap, np, cp, e, ho, hl, hp⟩ := h
  simp only [List.cons.injEq, and_true] at e
  obtain ⟨rfl, rfl, rfl, rfl, rfl, rfl, rfl⟩ := e
  obtain ⟨o1, o2, o3, o4, o5⟩ := ho
  obtain ⟨Aa, na, ca, Ab, nb, cb, e, ha, hb⟩ := hs
  simp only [List.cons.injEq, and_true] at e
  obtain ⟨rfl, rfl, rfl⟩ := e
  obtain ⟨Ba, ma, da, Bb, mb, db, e, ha', hb'⟩ := ht
  simp only [List.cons.injEq, and_true] at e
  obtain ⟨rfl, rfl, rfl⟩ := e
  clear ha hb hl hp ha' hb'
  have b0 : Blk (((w.alloc (.cells #[.slice Al nl cl, v1, v2, v3, v4, v5, .slice Ap np cp] 26)).alloc (.cells #[.int .i64 s.tick, .slice Aa na ca, .slice Ab nb cb] 30)).alloc (.cells #[.int .i64 t.tick, .slice Ba ma da, .slice Bb mb db] 30)) w.heap.size 26 #[.slice Al nl cl, v1, v2, v3, v4, v5, .slice Ap np cp] := ((Blk.made _ _ _).alloc _).alloc _
  have b1 : Blk (((w.alloc (.cells #[.slice Al nl cl, v1, v2, v3, v4, v5, .slice Ap np cp] 26)).alloc (.cells #[.int .i64 s.tick, .slice Aa na ca, .slice Ab nb cb] 30)).alloc (.cells #[.int .i64 t.tick, .slice Ba ma da, .slice Bb mb db] 30)) (w.heap.size + 1) 30 #[.int .i64 s.tick, .slice Aa na ca, .slice Ab nb cb] := (Blk.made_at _ _ _ _ (by simp)).alloc _
  have b2 : Blk (((w.alloc (.cells #[.slice Al nl cl, v1, v2, v3, v4, v5, .slice Ap np cp] 26)).alloc (.cells #[.int .i64 s.tick, .slice Aa na ca, .slice Ab nb cb] 30)).alloc (.cells #[.int .i64 t.tick, .slice Ba ma da, .slice Bb mb db] 30)) (w.heap.size + 2) 30 #[.int .i64 t.tick, .slice Ba ma da, .slice Bb mb db] := Blk.made_at _ _ _ _ (by simp)
  have hn : New w (((w.alloc (.cells #[.slice Al nl cl, v1, v2, v3, v4, v5, .slice Ap np cp] 26)).alloc (.cells #[.int .i64 s.tick, .slice Aa na ca, .slice Ab nb cb] 30)).alloc (.cells #[.int .i64 t.tick, .slice Ba ma da, .slice Bb mb db] 30)) := (((Kept.refl _ _).alloc _).alloc _).alloc _
  have B0 := Lib.hid b0
  have B1 := Lib.hid b1
  have B2 := Lib.hid b2
  have HN := Lib.hid hn
  have HZ := Lib.hid hz
  have HZT := Lib.hid hzt
  have HWA := Lib.hid hwa
  clear b0 b1 b2 hn hz hzt hwa
  go_enter Try.func3, Try.ntmps3
  go_upto_region 1 with (fail)
  generalize ((w.alloc (.cells #[.slice Al nl cl, v1, v2, v3, v4, v5, .slice Ap np cp] 26)).alloc (.cells #[.int .i64 s.tick, .slice Aa na ca, .slice Ab nb cb] 30)).alloc (.cells #[.int .i64 t.tick, .slice Ba ma da, .slice Bb mb db] 30) = w1 at *
  generalize w.heap.size = b at *
  have haw := awake_any w1
  have HAW := Lib.hid haw
  clear haw
  go_wp2_with fail
  refine HAW.out.mono ?_
  rintro e w2 ⟨rfl, hm2⟩
  have hm2' := HN.out.trans hm2
  have hfw := few_any (HSF.out w2 hm2') (Nat.le_refl _) HZ.out
  have HBX : Hid (∀ W, New w2 W → W.cell? ⟨b, 0, none⟩ = some (.slice Al nl cl) ∧ W.cell? ⟨b, 1, none⟩ = some (v1) ∧ W.cell? ⟨b, 2, none⟩ = some (v2) ∧ W.cell? ⟨b, 3, none⟩ = some (v3) ∧ W.cell? ⟨b, 4, none⟩ = some (v4) ∧ W.cell? ⟨b, 5, none⟩ = some (v5) ∧ W.cell? ⟨b, 6, none⟩ = some (.slice Ap np cp) ∧ W.cell? ⟨b + 1, 0, none⟩ = some (.int .i64 s.tick) ∧ W.cell? ⟨b + 1, 1, none⟩ = some (.slice Aa na ca) ∧ W.cell? ⟨b + 1, 2, none⟩ = some (.slice Ab nb cb) ∧ W.cell? ⟨b + 2, 0, none⟩ = some (.int .i64 t.tick) ∧ W.cell? ⟨b + 2, 1, none⟩ = some (.slice Ba ma da) ∧ W.cell? ⟨b + 2, 2, none⟩ = some (.slice Bb mb db)) := Lib.hid fun W hW => by
    have h1 := B0.out.kept (hm2.trans hW) id
    have h2 := B1.out.kept (hm2.trans hW) id
    have h3 := B2.out.kept (hm2.trans hW) id
    exact ⟨h1.cell 0, h1.cell 1, h1.cell 2, h1.cell 3, h1.cell 4, h1.cell 5, h1.cell 6, h2.cell 0, h2.cell 1, h2.cell 2, h3.cell 0, h3.cell 1, h3.cell 2⟩
  obtain ⟨y0, y1, y2, y3, y4, y5, y6, z0, z1, z2, t0, t1, t2⟩ := HBX.out w2 (Kept.refl _ _)
  have HFW := Lib.hid hfw
  have HM2 := Lib.hid hm2'
  clear hfw hm2'
  clear hm2
  go_wp2_with fail
  refine HFW.out.mono ?_
  rintro e w3 ⟨hm3, bf, rfl, hfew⟩
  have hn3 := HM2.out.trans hm3
  obtain ⟨y0, y1, y2, y3, y4, y5, y6, z0, z1, z2, t0, t1, t2⟩ := HBX.out w3 hm3
  cases bf with
  | false =>
    have HN3 := Lib.hid hn3
    clear hn3
    clear hm3 hfew
    go_wp2_with fail
    go_ret
    exact ⟨rfl, HN3.out⟩
  | true =>
    have hfew := hfew rfl
    have hfw2 := few_any (HTF.out w3 hn3) (Nat.le_refl _) HZT.out
    have HFW2 := Lib.hid hfw2
    have HN3 := Lib.hid hn3
    have HM3 := Lib.hid hm3
    have HFEW := Lib.hid hfew
    clear hfw2 hn3 hm3 hfew
    go_wp2_with fail
    refine HFW2.out.mono ?_
    rintro e w4 ⟨hm4, bf, rfl, hfew2⟩
    have hn4 := HN3.out.trans hm4
    have hm4' := HM3.out.trans hm4
    obtain ⟨y0, y1, y2, y3, y4, y5, y6, z0, z1, z2, t0, t1, t2⟩ := HBX.out w4 hm4'
    cases bf with
    | false =>
      have HN4 := Lib.hid hn4
      clear hn4
      clear hm4 hm4' hfew2
      go_wp2_with fail
      go_ret
      exact ⟨rfl, HN4.out⟩
    | true =>
      have HEND : Hid (∀ W, New w4 W → New w W) := Lib.hid fun W hW => hn4.trans hW
      have HCOF := Lib.hid fun W (hW : New w4 W) => of_any (HCF.out W (hn4.trans hW)) (HSF.out W (hn4.trans hW)) (Nat.le_refl _) a HFEW.out
      have HCRO := Lib.hid fun W (hW : New w4 W) => rof_any (HCF.out W (hn4.trans hW)) (HSF.out W (hn4.trans hW)) (Nat.le_refl _) a HWA.out HFEW.out
      have HCSE := Lib.hid fun W (hW : New w4 W) => sees_any (HCF.out W (hn4.trans hW)) (Nat.le_refl _) p a
      have HCRS := Lib.hid fun W (hW : New w4 W) => rsees_any (HCF.out W (hn4.trans hW)) (Nat.le_refl _) p a HWA.out
      have HCST := Lib.hid fun W (hW : New w4 W) => same_state (HSF.out W (hn4.trans hW)) (HTF.out W (hn4.trans hW)) (Nat.le_refl _)
      have HCRT := Lib.hid fun W (hW : New w4 W) => rsame_state (HSF.out W (hn4.trans hW)) (HTF.out W (hn4.trans hW)) (Nat.le_refl _)
      have HCSS := Lib.hid fun W (hW : New w4 W) => same_state (HSF.out W (hn4.trans hW)) (HSF.out W (hn4.trans hW)) (Nat.le_refl _)
      rw [eqb_true rfl] at HCSS
      have HCCO := Lib.hid fun W (hW : New w4 W) => copyState_any (HSF.out W (hn4.trans hW)) (Nat.le_refl _) HFEW.out
      have HTK : Hid ((ofS c s a).tick = s.tick) := Lib.hid rfl
      have HMC : Hid (New w4 w4.drew) := Lib.hid (Kept.refl _ _).drew
      generalize seesB c p a = m1 at *
      generalize eqb s t = m2 at *
      have HN4 := Lib.hid hn4
      have HM4 := Lib.hid hm4'
      clear hn4 hm4'
      clear hm4 hfew2
      go_wp2_with fail
      go_region_held3 (fun W => W.cell? ⟨b, 0, none⟩ = some (.slice Al nl cl) ∧ W.cell? ⟨b, 1, none⟩ = some (v1) ∧ W.cell? ⟨b, 2, none⟩ = some (v2) ∧ W.cell? ⟨b, 3, none⟩ = some (v3) ∧ W.cell? ⟨b, 4, none⟩ = some (v4) ∧ W.cell? ⟨b, 5, none⟩ = some (v5) ∧ W.cell? ⟨b, 6, none⟩ = some (.slice Ap np cp) ∧ W.cell? ⟨b + 1, 0, none⟩ = some (.int .i64 s.tick) ∧ W.cell? ⟨b + 1, 1, none⟩ = some (.slice Aa na ca) ∧ W.cell? ⟨b + 1, 2, none⟩ = some (.slice Ab nb cb) ∧ W.cell? ⟨b + 2, 0, none⟩ = some (.int .i64 t.tick) ∧ W.cell? ⟨b + 2, 1, none⟩ = some (.slice Ba ma da) ∧ W.cell? ⟨b + 2, 2, none⟩ = some (.slice Bb mb db)) (first | (refine ⟨?_, ?_, ?_, ?_, ?_, ?_, ?_, ?_, ?_, ?_, ?_, ?_, ?_⟩ <;> with_reducible assumption) | go_keep)
        (first
          | (go_at_call 9; (with_reducible refine (HCOF.out _ HMC.out).mono ?_); rintro e wx ⟨cs, rfl, hown, hm⟩; have hmc : New w4 wx := HMC.out.trans hm; obtain ⟨y0, y1, y2, y3, y4, y5, y6, z0, z1, z2, t0, t1, t2⟩ := HBX.out wx (HM4.out.trans hmc); obtain ⟨B1, q1, d1, B2, q2, d2, G1, G2, rfl, ho1, ho2, -⟩ := hown; have hr : repState.cells wx wx.heap.size (ofS c s a) [.int .i64 (ofS c s a).tick, .slice B1 q1 d1, .slice B2 q2 d2] := ⟨_, _, _, _, _, _, rfl, ho1.read part_reads, ho2.read proc_reads⟩; have HRA := Lib.hid fun W (hW : New wx W) => repState.more hW.size (repState.stays (fun p hp => hW.cell hp id) hr); have HLAST := Lib.hid hm; have HMC := Lib.hid hmc; clear hm hmc hr ho1 ho2)
          | (go_at_call 10; (with_reducible refine (HCRO.out _ HMC.out).mono ?_); rintro e wx ⟨B3, q3, d3, B4, q4, d4, rfl, hr, hm⟩; have hmc : New w4 wx := HMC.out.trans hm; obtain ⟨y0, y1, y2, y3, y4, y5, y6, z0, z1, z2, t0, t1, t2⟩ := HBX.out wx (HM4.out.trans hmc); have HRB := Lib.hid fun W (hW : New wx W) => repState.more hW.size (repState.stays (fun p hp => hW.cell hp id) hr); have HLAST := Lib.hid hm; have HMC := Lib.hid hmc; clear hm hmc hr)
          | (go_at_call 8; have hx := rsame_state (HRA.out _ (by first | exact HLAST.out | exact Kept.refl _ _)) (HRB.out _ (by first | exact HLAST.out | exact Kept.refl _ _)) (Nat.le_refl _); rw [eqb_true rfl] at hx; (with_reducible refine hx.mono ?_); rintro e wx ⟨rfl, hm⟩; have hmc : New w4 wx := HMC.out.trans hm; obtain ⟨y0, y1, y2, y3, y4, y5, y6, z0, z1, z2, t0, t1, t2⟩ := HBX.out wx (HM4.out.trans hmc); have HLAST := Lib.hid hm; have HMC := Lib.hid hmc; clear hm hmc hx)
          | (go_at_call 11; (with_reducible refine (HCSE.out _ HMC.out).mono ?_); rintro e wx ⟨rfl, hm⟩; have hmc : New w4 wx := HMC.out.trans hm; obtain ⟨y0, y1, y2, y3, y4, y5, y6, z0, z1, z2, t0, t1, t2⟩ := HBX.out wx (HM4.out.trans hmc); have HLAST := Lib.hid hm; have HMC := Lib.hid hmc; clear hm hmc)
          | (go_at_call 12; (with_reducible refine (HCRS.out _ HMC.out).mono ?_); rintro e wx ⟨rfl, hm⟩; have hmc : New w4 wx := HMC.out.trans hm; obtain ⟨y0, y1, y2, y3, y4, y5, y6, z0, z1, z2, t0, t1, t2⟩ := HBX.out wx (HM4.out.trans hmc); have HLAST := Lib.hid hm; have HMC := Lib.hid hmc; clear hm hmc)
          | (go_at_call 13; (with_reducible refine (HCST.out _ HMC.out).mono ?_); rintro e wx ⟨rfl, hm⟩; have hmc : New w4 wx := HMC.out.trans hm; obtain ⟨y0, y1, y2, y3, y4, y5, y6, z0, z1, z2, t0, t1, t2⟩ := HBX.out wx (HM4.out.trans hmc); have HLAST := Lib.hid hm; have HMC := Lib.hid hmc; clear hm hmc)
          | (go_at_call 8; (with_reducible refine (HCRT.out _ HMC.out).mono ?_); rintro e wx ⟨rfl, hm⟩; have hmc : New w4 wx := HMC.out.trans hm; obtain ⟨y0, y1, y2, y3, y4, y5, y6, z0, z1, z2, t0, t1, t2⟩ := HBX.out wx (HM4.out.trans hmc); have HLAST := Lib.hid hm; have HMC := Lib.hid hmc; clear hm hmc)
          | (go_at_call 13; (with_reducible refine (HCSS.out _ HMC.out).mono ?_); rintro e wx ⟨rfl, hm⟩; have hmc : New w4 wx := HMC.out.trans hm; obtain ⟨y0, y1, y2, y3, y4, y5, y6, z0, z1, z2, t0, t1, t2⟩ := HBX.out wx (HM4.out.trans hmc); have HLAST := Lib.hid hm; have HMC := Lib.hid hmc; clear hm hmc)
          | (go_at_call 14; (with_reducible refine (HCCO.out _ HMC.out).mono ?_); rintro e wx ⟨cs, rfl, hown, hm⟩; have hmc : New w4 wx := HMC.out.trans hm; obtain ⟨y0, y1, y2, y3, y4, y5, y6, z0, z1, z2, t0, t1, t2⟩ := HBX.out wx (HM4.out.trans hmc); obtain ⟨B5, q5, d5, B6, q6, d6, G1, G2, rfl, ho1, ho2, -⟩ := hown; have hr : repState.cells wx wx.heap.size s [.int .i64 s.tick, .slice B5 q5 d5, .slice B6 q6 d6] := ⟨_, _, _, _, _, _, rfl, ho1.read part_reads, ho2.read proc_reads⟩; have HRD := Lib.hid fun W (hW : New wx W) => repState.more hW.size (repState.stays (fun p hp => hW.cell hp id) hr); have HLAST := Lib.hid hm; have HMC := Lib.hid hmc; clear hm hmc hr ho1 ho2)
          | (go_at_call 13; have hx := same_state (HSF.out _ (HN4.out.trans HMC.out)) (HRD.out _ (Kept.refl _ _)) (Nat.le_refl _); rw [eqb_true rfl] at hx; (with_reducible refine hx.mono ?_); rintro e wx ⟨rfl, hm⟩; have hmc : New w4 wx := HMC.out.trans hm; obtain ⟨y0, y1, y2, y3, y4, y5, y6, z0, z1, z2, t0, t1, t2⟩ := HBX.out wx (HM4.out.trans hmc); have HLAST := Lib.hid hm; have HMC := Lib.hid hmc; clear hm hmc hx))
      all_goals
        go_wp2_with fail
        go_ret
        exact ⟨rfl, HEND.out _ HMC.out⟩
end Go.Proofs.Ytgdmajockejpgaa.View
