/- The walk of ViewFollows (layer 18). -/
import Derived.Test.YtgdmajockejpgaaViewX
import Derived.Test.YtgdmajockejpgaaViewW
import Derived.Deep.RegionHeld3
namespace Go.Proofs.Ytgdmajockejpgaa.View
open Go.RowKit Go.Fb
set_option linter.unusedVariables false
set_option maxHeartbeats 8000000 in
set_option maxRecDepth 100000 in
theorem follows_walk {w : World} {c : Config} {s : State} {v0 v1 v2 v3 v4 v5 v6 s0 s1 s2 : Value} (h : repConf.cells w w.heap.size c [v0, v1, v2, v3, v4, v5, v6]) (hs : repState.cells w w.heap.size s [s0, s1, s2]) (hz : SmallS s) (a a2 p : Int) :
    Calls Try.prog 4 #[.agg #[v0, v1, v2, v3, v4, v5, v6], .agg #[s0, s1, s2], .int .u64 a, .int .u64 a2, .int .i64 p] w fun e w' => e = .returned (.bool true) ∧ New w w' := by
  have HCF : Hid (∀ W, New w W → repConf.cells W W.heap.size c [v0, v1, v2, v3, v4, v5, v6]) := Lib.hid fun W hW => repConf.more hW.size (repConf.stays (fun p hp => hW.cell hp id) h)
  have HSF : Hid (∀ W, New w W → repState.cells W W.heap.size s [s0, s1, s2]) := Lib.hid fun W hW => repState.more hW.size (repState.stays (fun p hp => hW.cell hp id) hs)
  obtain ⟨Al, nl, cl, u1, u2, u3, u4, u5, Ap, np, cp, e, ho, hl, hp⟩ := h
  simp only [List.cons.injEq, and_true] at e
  obtain ⟨rfl, rfl, rfl, rfl, rfl, rfl, rfl⟩ := e
  obtain ⟨o1, o2, o3, o4, o5⟩ := ho
  obtain ⟨Aa, na, ca, Ab, nb, cb, e, ha, hb⟩ := hs
  simp only [List.cons.injEq, and_true] at e
  obtain ⟨rfl, rfl, rfl⟩ := e
  clear ha hb hl hp
  have b0 : Blk ((w.alloc (.cells #[.slice Al nl cl, v1, v2, v3, v4, v5, .slice Ap np cp] 26)).alloc (.cells #[.int .i64 s.tick, .slice Aa na ca, .slice Ab nb cb] 30)) w.heap.size 26 #[.slice Al nl cl, v1, v2, v3, v4, v5, .slice Ap np cp] := (Blk.made _ _ _).alloc _
  have b1 : Blk ((w.alloc (.cells #[.slice Al nl cl, v1, v2, v3, v4, v5, .slice Ap np cp] 26)).alloc (.cells #[.int .i64 s.tick, .slice Aa na ca, .slice Ab nb cb] 30)) (w.heap.size + 1) 30 #[.int .i64 s.tick, .slice Aa na ca, .slice Ab nb cb] := Blk.made_at _ _ _ _ (by simp)
  have hn : New w ((w.alloc (.cells #[.slice Al nl cl, v1, v2, v3, v4, v5, .slice Ap np cp] 26)).alloc (.cells #[.int .i64 s.tick, .slice Aa na ca, .slice Ab nb cb] 30)) := ((Kept.refl _ _).alloc _).alloc _
  have HLE := Lib.hid (less_and a a2)
  have HMO := Lib.hid fun h => (less_and a a2).sees c p h
  have B0 := Lib.hid b0
  have B1 := Lib.hid b1
  have HN := Lib.hid hn
  have HZ := Lib.hid hz
  clear b0 b1 hn hz
  go_enter Try.func4, Try.ntmps4
  go_upto_region 1 with (fail)
  generalize (w.alloc (.cells #[.slice Al nl cl, v1, v2, v3, v4, v5, .slice Ap np cp] 26)).alloc (.cells #[.int .i64 s.tick, .slice Aa na ca, .slice Ab nb cb] 30) = w1 at *
  generalize w.heap.size = b at *
  have haw := awake_any w1
  have HAW := Lib.hid haw
  clear haw
  go_wp2_with fail
  refine HAW.out.mono ?_
  rintro e w2 ⟨rfl, hm2⟩
  have hm2' := HN.out.trans hm2
  have hfw := few_any (HSF.out w2 hm2') (Nat.le_refl _) HZ.out
  have HBX : Hid (∀ W, New w2 W → W.cell? ⟨b, 0, none⟩ = some (.slice Al nl cl) ∧ W.cell? ⟨b, 1, none⟩ = some (v1) ∧ W.cell? ⟨b, 2, none⟩ = some (v2) ∧ W.cell? ⟨b, 3, none⟩ = some (v3) ∧ W.cell? ⟨b, 4, none⟩ = some (v4) ∧ W.cell? ⟨b, 5, none⟩ = some (v5) ∧ W.cell? ⟨b, 6, none⟩ = some (.slice Ap np cp) ∧ W.cell? ⟨b + 1, 0, none⟩ = some (.int .i64 s.tick) ∧ W.cell? ⟨b + 1, 1, none⟩ = some (.slice Aa na ca) ∧ W.cell? ⟨b + 1, 2, none⟩ = some (.slice Ab nb cb)) := Lib.hid fun W hW => by
    have h1 := B0.out.kept (hm2.trans hW) id
    have h2 := B1.out.kept (hm2.trans hW) id
    exact ⟨h1.cell 0, h1.cell 1, h1.cell 2, h1.cell 3, h1.cell 4, h1.cell 5, h1.cell 6, h2.cell 0, h2.cell 1, h2.cell 2⟩
  obtain ⟨y0, y1, y2, y3, y4, y5, y6, z0, z1, z2⟩ := HBX.out w2 (Kept.refl _ _)
  have HFW := Lib.hid hfw
  have HM2 := Lib.hid hm2'
  clear hfw hm2'
  clear hm2
  go_wp2_with fail
  refine HFW.out.mono ?_
  rintro e w3 ⟨hm3, bf, rfl, hfew⟩
  have hn3 := HM2.out.trans hm3
  obtain ⟨y0, y1, y2, y3, y4, y5, y6, z0, z1, z2⟩ := HBX.out w3 hm3
  cases bf with
  | false =>
    have HN3 := Lib.hid hn3
    clear hn3
    clear hm3 hfew
    go_wp2_with fail
    go_ret
    exact ⟨rfl, HN3.out⟩
  | true =>
    have hfew := hfew rfl
    have hof := of_any (HCF.out w3 hn3) (HSF.out w3 hn3) (Nat.le_refl _) a hfew
    have hse := fun W (hW : New w W) => sees_any (HCF.out W hW) (Nat.le_refl _) p
    have HOF := Lib.hid hof
    have HN3 := Lib.hid hn3
    have HM3 := Lib.hid hm3
    have HFEW := Lib.hid hfew
    have HSE := Lib.hid hse
    clear hof hn3 hm3 hfew hse
    go_wp2_with fail
    refine HOF.out.mono ?_
    rintro e w4 ⟨cs, rfl, hown, hm4⟩
    obtain ⟨A1, n1, c1, A2, n2, c2, F1, F2, rfl, ho1, ho2, -⟩ := hown
    have hst1 : repState.cells w4 w4.heap.size (ofS c s a) [.int .i64 (ofS c s a).tick, .slice A1 n1 c1, .slice A2 n2 c2] := ⟨_, _, _, _, _, _, rfl, ho1.read part_reads, ho2.read proc_reads⟩
    have k1 := ho1.bound
    have k2 := ho2.bound
    have ht1 : (ofS c s a).tick = s.tick := rfl
    rw [ht1] at hst1
    have hal1 : New w4 (w4.alloc (.cells #[.int .i64 s.tick, .slice A1 n1 c1, .slice A2 n2 c2] 30)) := (Kept.refl _ _).alloc _
    have hbt1 := Blk.made w4 30 #[.int .i64 s.tick, .slice A1 n1 c1, .slice A2 n2 c2]
    have hn4 := HN3.out.trans (hm4.trans hal1)
    have hm34 := HM3.out.trans (hm4.trans hal1)
    have HS1 : Hid (∀ W, New (w4.alloc (.cells #[.int .i64 s.tick, .slice A1 n1 c1, .slice A2 n2 c2] 30)) W → repState.cells W W.heap.size (ofS c s a) [.int .i64 s.tick, .slice A1 n1 c1, .slice A2 n2 c2]) := Lib.hid fun W hW => repState.more (hal1.trans hW).size (repState.stays (fun p hp => (hal1.trans hW).cell hp id) hst1)
    have HBT1 := Lib.hid hbt1
    have HN4 := Lib.hid hn4
    have HM34 := Lib.hid hm34
    clear hbt1 hn4 hm34
    clear ho1 ho2 hst1 hal1 hm4
    go_upto_region 6 with (fail)
    generalize w4.alloc (.cells #[.int .i64 s.tick, .slice A1 n1 c1, .slice A2 n2 c2] 30) = w5 at *
    generalize w4.heap.size = g1 at *
    obtain ⟨y0, y1, y2, y3, y4, y5, y6, z0, z1, z2⟩ := HBX.out w5 HM34.out
    have hof2 := of_any (HCF.out w5 HN4.out) (HSF.out w5 HN4.out) (Nat.le_refl _) (bits BinOp.and IntKind.u64 a a2) HFEW.out
    have HOF2 := Lib.hid hof2
    clear hof2
    go_wp2_with fail
    refine HOF2.out.mono ?_
    rintro e w6 ⟨cs, rfl, hown, hm6⟩
    obtain ⟨A3, n3, c3, A4, n4, c4, F3, F4, rfl, ho3, ho4, -⟩ := hown
    have hst2 : repState.cells w6 w6.heap.size (ofS c s (bits BinOp.and IntKind.u64 a a2)) [.int .i64 (ofS c s (bits BinOp.and IntKind.u64 a a2)).tick, .slice A3 n3 c3, .slice A4 n4 c4] := ⟨_, _, _, _, _, _, rfl, ho3.read part_reads, ho4.read proc_reads⟩
    have k3 := ho3.bound
    have k4 := ho4.bound
    have ht2 : (ofS c s (bits BinOp.and IntKind.u64 a a2)).tick = s.tick := rfl
    rw [ht2] at hst2
    have hal2 : New w6 (w6.alloc (.cells #[.int .i64 s.tick, .slice A3 n3 c3, .slice A4 n4 c4] 30)) := (Kept.refl _ _).alloc _
    have hbt2 := Blk.made w6 30 #[.int .i64 s.tick, .slice A3 n3 c3, .slice A4 n4 c4]
    have hm56 := hm6.trans hal2
    have hn6 := HN4.out.trans hm56
    have HS2 : Hid (∀ W, New (w6.alloc (.cells #[.int .i64 s.tick, .slice A3 n3 c3, .slice A4 n4 c4] 30)) W → repState.cells W W.heap.size (ofS c s (bits BinOp.and IntKind.u64 a a2)) [.int .i64 s.tick, .slice A3 n3 c3, .slice A4 n4 c4]) := Lib.hid fun W hW => repState.more (hal2.trans hW).size (repState.stays (fun p hp => (hal2.trans hW).cell hp id) hst2)
    have HALL : Hid (∀ W, New (w6.alloc (.cells #[.int .i64 s.tick, .slice A3 n3 c3, .slice A4 n4 c4] 30)) W → (W.cell? ⟨b, 0, none⟩ = some (.slice Al nl cl) ∧ W.cell? ⟨b, 1, none⟩ = some (v1) ∧ W.cell? ⟨b, 2, none⟩ = some (v2) ∧ W.cell? ⟨b, 3, none⟩ = some (v3) ∧ W.cell? ⟨b, 4, none⟩ = some (v4) ∧ W.cell? ⟨b, 5, none⟩ = some (v5) ∧ W.cell? ⟨b, 6, none⟩ = some (.slice Ap np cp) ∧ W.cell? ⟨b + 1, 0, none⟩ = some (.int .i64 s.tick) ∧ W.cell? ⟨b + 1, 1, none⟩ = some (.slice Aa na ca) ∧ W.cell? ⟨b + 1, 2, none⟩ = some (.slice Ab nb cb)) ∧ (W.cell? ⟨g1, 0, none⟩ = some (.int .i64 s.tick) ∧ W.cell? ⟨g1, 1, none⟩ = some (.slice A1 n1 c1) ∧ W.cell? ⟨g1, 2, none⟩ = some (.slice A2 n2 c2)) ∧ (W.cell? ⟨w6.heap.size, 0, none⟩ = some (.int .i64 s.tick) ∧ W.cell? ⟨w6.heap.size, 1, none⟩ = some (.slice A3 n3 c3) ∧ W.cell? ⟨w6.heap.size, 2, none⟩ = some (.slice A4 n4 c4))) := Lib.hid fun W hW => by
      have h1 := HBT1.out.kept (hm56.trans hW) id
      have h2 := hbt2.kept hW id
      exact ⟨HBX.out W (HM34.out.trans (hm56.trans hW)), ⟨h1.cell 0, h1.cell 1, h1.cell 2⟩, ⟨h2.cell 0, h2.cell 1, h2.cell 2⟩⟩
    have HS1' : Hid (∀ W, New (w6.alloc (.cells #[.int .i64 s.tick, .slice A3 n3 c3, .slice A4 n4 c4] 30)) W → repState.cells W W.heap.size (ofS c s a) [.int .i64 s.tick, .slice A1 n1 c1, .slice A2 n2 c2]) := Lib.hid fun W hW => HS1.out W (hm56.trans hW)
    have HN6 := Lib.hid hn6
    clear hn6
    clear ho3 ho4 hst2 hal2 hm6 hbt2 hm56
    go_upto_region 7 with (fail)
    generalize w6.alloc (.cells #[.int .i64 s.tick, .slice A3 n3 c3, .slice A4 n4 c4] 30) = w7 at *
    generalize w6.heap.size = g2 at *
    obtain ⟨⟨y0, y1, y2, y3, y4, y5, y6, z0, z1, z2⟩, ⟨t0, t1, t2⟩, ⟨r0, r1, r2⟩⟩ := HALL.out w7 (Kept.refl _ _)
    have h1 := HSE.out w7 HN6.out (bits BinOp.and IntKind.u64 a a2)
    have h2 := fun W (hW : New w7 W) => HSE.out W (HN6.out.trans hW) a
    have HC1 := Lib.hid fun W (hW : New w7 W) => of_any (HCF.out W (HN6.out.trans hW)) (HS1'.out W hW) (Nat.le_refl _) a (HFEW.out.of a)
    have HC2 := Lib.hid fun W (hW : New w7 W) => of_any (HCF.out W (HN6.out.trans hW)) (HS1'.out W hW) (Nat.le_refl _) (bits BinOp.and IntKind.u64 a a2) (HFEW.out.of a)
    have HC3 := Lib.hid fun W (hW : New w7 W) => of_any (HCF.out W (HN6.out.trans hW)) (HS2.out W hW) (Nat.le_refl _) a (HFEW.out.of _)
    rw [ofS_less (Less.refl a)] at HC1
    rw [ofS_less HLE.out] at HC2
    rw [ofS_more HLE.out] at HC3
    have HM3' := HMO.out
    generalize ofS c s a = S1 at *
    generalize ofS c s (bits BinOp.and IntKind.u64 a a2) = S2 at *
    generalize seesB c p a = m2 at *
    generalize seesB c p (bits BinOp.and IntKind.u64 a a2) = m1 at *
    have HM3 := Lib.hid HM3'
    have HA1 := Lib.hid h1
    have HA2 := Lib.hid h2
    clear h1 h2
    clear HM3'
    go_wp2_with fail
    refine HA1.out.mono ?_
    rintro e w8 ⟨rfl, hm8⟩
    obtain ⟨⟨y0, y1, y2, y3, y4, y5, y6, z0, z1, z2⟩, ⟨t0, t1, t2⟩, ⟨r0, r1, r2⟩⟩ := HALL.out w8 hm8
    have HM8 := Lib.hid hm8
    clear hm8
    go_wp2_with fail
    refine (HA2.out _ HM8.out).mono ?_
    rintro e w9 ⟨rfl, hm9⟩
    have hm9 := HM8.out.trans hm9
    obtain ⟨⟨y0, y1, y2, y3, y4, y5, y6, z0, z1, z2⟩, ⟨t0, t1, t2⟩, ⟨r0, r1, r2⟩⟩ := HALL.out w9 hm9
    have HM9 := Lib.hid hm9
    clear hm9
    have hcase : m1 = false ∨ (m1 = true ∧ m2 = true) := by
      cases m1
      · exact .inl rfl
      · exact .inr ⟨rfl, HM3.out rfl⟩
    have hend := fun W (hW : New w7 W) => HN6.out.trans hW
    have HEND := Lib.hid hend
    clear hend
    rcases hcase with rfl | ⟨rfl, rfl⟩
    · go_wp2_with fail
      refine wp_region_held_drew (S := fun W => W.cell? ⟨b, 0, none⟩ = some (.slice Al nl cl) ∧ W.cell? ⟨b, 1, none⟩ = some (v1) ∧ W.cell? ⟨b, 2, none⟩ = some (v2) ∧ W.cell? ⟨b, 3, none⟩ = some (v3) ∧ W.cell? ⟨b, 4, none⟩ = some (v4) ∧ W.cell? ⟨b, 5, none⟩ = some (v5) ∧ W.cell? ⟨b, 6, none⟩ = some (.slice Ap np cp) ∧ W.cell? ⟨g1, 0, none⟩ = some (.int .i64 s.tick) ∧ W.cell? ⟨g1, 1, none⟩ = some (.slice A1 n1 c1) ∧ W.cell? ⟨g1, 2, none⟩ = some (.slice A2 n2 c2) ∧ W.cell? ⟨g2, 0, none⟩ = some (.int .i64 s.tick) ∧ W.cell? ⟨g2, 1, none⟩ = some (.slice A3 n3 c3) ∧ W.cell? ⟨g2, 2, none⟩ = some (.slice A4 n4 c4)) (by kernel_rfl) ?hS0 (fun hHeld => ?body)
      case hS0 =>
        try dsimp only
        (first | (refine ⟨?_, ?_, ?_, ?_, ?_, ?_, ?_, ?_, ?_, ?_, ?_, ?_, ?_⟩ <;> with_reducible assumption) | go_keep)
      case body =>
        refine wpAnyH_take (i := 0) (oi := ?oi0) (v := ?vv0) ?hi0 (by kernel_rfl) ?hf0 ?hr0 ?hQ0 ?hy0 (by assumption) ?rest0
        case hi0 => simp only [List.getElem?_toArray, List.getElem?_cons_succ, List.getElem?_cons_zero]; exact rfl
        case hQ0 => exact fun _ _ _ h => h
        case hf0 => kernel_rfl
        case hr0 => kernel_rfl
        case hy0 =>
          refine Or.inl ⟨by rfl, ?_⟩
          intro w hSw
          try dsimp only at hSw
          go_simp
          try with_reducible rfl
        try simp only [Act.put, List.setIfInBounds_toArray, List.set_cons_zero, List.set_cons_succ]
        refine wpAnyH_take (i := 1) (oi := ?oi1) (v := ?vv1) ?hi1 (by kernel_rfl) ?hf1 ?hr1 ?hQ1 ?hy1 (by assumption) ?rest1
        case hi1 => simp only [List.getElem?_toArray, List.getElem?_cons_succ, List.getElem?_cons_zero]; exact rfl
        case hQ1 => exact fun _ _ _ h => h
        case hf1 => kernel_rfl
        case hr1 => kernel_rfl
        case hy1 =>
          refine Or.inl ⟨by rfl, ?_⟩
          intro w hSw
          try dsimp only at hSw
          go_simp
          try with_reducible rfl
        try simp only [Act.put, List.setIfInBounds_toArray, List.set_cons_zero, List.set_cons_succ]
        refine wpAnyH_take (i := 2) (oi := ?oi2) (v := ?vv2) ?hi2 (by kernel_rfl) ?hf2 ?hr2 ?hQ2 ?hy2 (by assumption) ?rest2
        case hi2 => simp only [List.getElem?_toArray, List.getElem?_cons_succ, List.getElem?_cons_zero]; exact rfl
        case hQ2 => exact fun _ _ _ h => h
        case hf2 => kernel_rfl
        case hr2 => kernel_rfl
        case hy2 =>
          refine Or.inl ⟨by rfl, ?_⟩
          intro w hSw
          try dsimp only at hSw
          go_simp
          try with_reducible rfl
        try simp only [Act.put, List.setIfInBounds_toArray, List.set_cons_zero, List.set_cons_succ]
        refine wpAnyH_take (i := 4) (oi := ?oi4) (v := ?vv4) ?hi4 (by kernel_rfl) ?hf4 ?hr4 ?hQ4 ?hy4 (by assumption) ?rest4
        case hi4 => simp only [List.getElem?_toArray, List.getElem?_cons_succ, List.getElem?_cons_zero]; exact rfl
        case hQ4 => exact fun _ _ _ h => h
        case hf4 => kernel_rfl
        case hr4 => kernel_rfl
        case hy4 =>
          refine Or.inl ⟨by rfl, ?_⟩
          intro w hSw
          try dsimp only at hSw
          go_simp
          try with_reducible rfl
        try simp only [Act.put, List.setIfInBounds_toArray, List.set_cons_zero, List.set_cons_succ]
        refine wpAnyH_ready (rs := [3]) (by kernel_rfl) (by simp) ?_
        refine AllReadyH.cons (o := ?oic3) ?hic3 (fun K hK => ?stc3) AllReadyH.nil
        case hic3 => simp only [List.getElem?_toArray, List.getElem?_cons_succ, List.getElem?_cons_zero]; exact rfl
        go_simp
        (go_at_call 9; (with_reducible refine (HC1.out _ (by first | exact HM9.out | exact HM9.out.drew)).mono ?_); rintro e wxA ⟨cs0, rfl, hown, hm⟩; have hmA : New w7 wxA := (by first | exact HM9.out.trans hm | exact HM9.out.drew.trans hm); obtain ⟨B1, q1, d1, B2, q2, d2, G1, G2, rfl, ho1, ho2, -⟩ := hown; have hr : repState.cells wxA wxA.heap.size S1 [.int .i64 S1.tick, .slice B1 q1 d1, .slice B2 q2 d2] := ⟨_, _, _, _, _, _, rfl, ho1.read part_reads, ho2.read proc_reads⟩; rw [ht1] at hr; have HX0 := Lib.hid fun W (hW : New wxA W) => same_state (repState.more hW.size (repState.stays (fun p hp => hW.cell hp id) hr)) (HS1'.out W (hmA.trans hW)) (Nat.le_refl _); rw [eqb_true rfl] at HX0; obtain ⟨⟨y0, y1, y2, y3, y4, y5, y6, z0, z1, z2⟩, ⟨t0, t1, t2⟩, ⟨r0, r1, r2⟩⟩ := HALL.out wxA hmA; have HMA := Lib.hid hmA; clear hm ho1 ho2 hr hmA)
        refine hK.out _ _ ?hS1c3 (fun hHeld => ?restc3)
        case hS1c3 =>
          try dsimp only
          (first | (refine ⟨?_, ?_, ?_, ?_, ?_, ?_, ?_, ?_, ?_, ?_, ?_, ?_, ?_⟩ <;> with_reducible assumption) | go_keep)
        clear hK K
        try simp only [Act.put, List.setIfInBounds_toArray, List.set_cons_zero, List.set_cons_succ]
        refine wpAnyH_ready (rs := [5]) (by kernel_rfl) (by simp) ?_
        refine AllReadyH.cons (o := ?oic5) ?hic5 (fun K hK => ?stc5) AllReadyH.nil
        case hic5 => simp only [List.getElem?_toArray, List.getElem?_cons_succ, List.getElem?_cons_zero]; exact rfl
        go_simp
        (go_at_call 13; (with_reducible refine (HX0.out _ (Kept.refl _ _)).mono ?_); rintro e wxB ⟨rfl, hm⟩; have hmB : New w7 wxB := HMA.out.trans hm; obtain ⟨⟨y0, y1, y2, y3, y4, y5, y6, z0, z1, z2⟩, ⟨t0, t1, t2⟩, ⟨r0, r1, r2⟩⟩ := HALL.out wxB hmB; have HMB := Lib.hid hmB; clear hm hmB)
        refine hK.out _ _ ?hS1c5 (fun hHeld => ?restc5)
        case hS1c5 =>
          try dsimp only
          (first | (refine ⟨?_, ?_, ?_, ?_, ?_, ?_, ?_, ?_, ?_, ?_, ?_, ?_, ?_⟩ <;> with_reducible assumption) | go_keep)
        clear hK K
        try simp only [Act.put, List.setIfInBounds_toArray, List.set_cons_zero, List.set_cons_succ]
        refine wpAnyH_take (i := 6) (oi := ?oi6) (v := ?vv6) ?hi6 (by kernel_rfl) ?hf6 ?hr6 ?hQ6 ?hy6 (by assumption) ?rest6
        case hi6 => simp only [List.getElem?_toArray, List.getElem?_cons_succ, List.getElem?_cons_zero]; exact rfl
        case hQ6 => exact fun _ _ _ h => h
        case hf6 => kernel_rfl
        case hr6 => kernel_rfl
        case hy6 =>
          refine Or.inl ⟨by rfl, ?_⟩
          intro w hSw
          try dsimp only at hSw
          go_simp
          try with_reducible rfl
        try simp only [Act.put, List.setIfInBounds_toArray, List.set_cons_zero, List.set_cons_succ]
        refine wpAnyH_take (i := 7) (oi := ?oi7) (v := ?vv7) ?hi7 (by kernel_rfl) ?hf7 ?hr7 ?hQ7 ?hy7 (by assumption) ?rest7
        case hi7 => simp only [List.getElem?_toArray, List.getElem?_cons_succ, List.getElem?_cons_zero]; exact rfl
        case hQ7 => exact fun _ _ _ h => h
        case hf7 => kernel_rfl
        case hr7 => kernel_rfl
        case hy7 =>
          refine Or.inl ⟨by rfl, ?_⟩
          intro w hSw
          try dsimp only at hSw
          go_simp
          try with_reducible rfl
        try simp only [Act.put, List.setIfInBounds_toArray, List.set_cons_zero, List.set_cons_succ]
        refine wpAnyH_take (i := 8) (oi := ?oi8) (v := ?vv8) ?hi8 (by kernel_rfl) ?hf8 ?hr8 ?hQ8 ?hy8 (by assumption) ?rest8
        case hi8 => simp only [List.getElem?_toArray, List.getElem?_cons_succ, List.getElem?_cons_zero]; exact rfl
        case hQ8 => exact fun _ _ _ h => h
        case hf8 => kernel_rfl
        case hr8 => kernel_rfl
        case hy8 =>
          refine Or.inl ⟨by rfl, ?_⟩
          intro w hSw
          try dsimp only at hSw
          go_simp
          try with_reducible rfl
        try simp only [Act.put, List.setIfInBounds_toArray, List.set_cons_zero, List.set_cons_succ]
        refine wpAnyH_take (i := 9) (oi := ?oi9) (v := ?vv9) ?hi9 (by kernel_rfl) ?hf9 ?hr9 ?hQ9 ?hy9 (by assumption) ?rest9
        case hi9 => simp only [List.getElem?_toArray, List.getElem?_cons_succ, List.getElem?_cons_zero]; exact rfl
        case hQ9 => exact fun _ _ _ h => h
        case hf9 => kernel_rfl
        case hr9 => kernel_rfl
        case hy9 =>
          refine Or.inl ⟨by rfl, ?_⟩
          intro w hSw
          try dsimp only at hSw
          go_simp
          try with_reducible rfl
        try simp only [Act.put, List.setIfInBounds_toArray, List.set_cons_zero, List.set_cons_succ]
        refine wpAnyH_take (i := 10) (oi := ?oi10) (v := ?vv10) ?hi10 (by kernel_rfl) ?hf10 ?hr10 ?hQ10 ?hy10 (by assumption) ?rest10
        case hi10 => simp only [List.getElem?_toArray, List.getElem?_cons_succ, List.getElem?_cons_zero]; exact rfl
        case hQ10 => exact fun _ _ _ h => h
        case hf10 => kernel_rfl
        case hr10 => kernel_rfl
        case hy10 =>
          refine Or.inl ⟨by rfl, ?_⟩
          intro w hSw
          try dsimp only at hSw
          go_simp
          try with_reducible rfl
        try simp only [Act.put, List.setIfInBounds_toArray, List.set_cons_zero, List.set_cons_succ]
        refine wpAnyH_take (i := 11) (oi := ?oi11) (v := ?vv11) ?hi11 (by kernel_rfl) ?hf11 ?hr11 ?hQ11 ?hy11 (by assumption) ?rest11
        case hi11 => simp only [List.getElem?_toArray, List.getElem?_cons_succ, List.getElem?_cons_zero]; exact rfl
        case hQ11 => exact fun _ _ _ h => h
        case hf11 => kernel_rfl
        case hr11 => kernel_rfl
        case hy11 =>
          refine Or.inl ⟨by rfl, ?_⟩
          intro w hSw
          try dsimp only at hSw
          go_simp
          try with_reducible rfl
        try simp only [Act.put, List.setIfInBounds_toArray, List.set_cons_zero, List.set_cons_succ]
        refine wpAnyH_take (i := 13) (oi := ?oi13) (v := ?vv13) ?hi13 (by kernel_rfl) ?hf13 ?hr13 ?hQ13 ?hy13 (by assumption) ?rest13
        case hi13 => simp only [List.getElem?_toArray, List.getElem?_cons_succ, List.getElem?_cons_zero]; exact rfl
        case hQ13 => exact fun _ _ _ h => h
        case hf13 => kernel_rfl
        case hr13 => kernel_rfl
        case hy13 =>
          refine Or.inl ⟨by rfl, ?_⟩
          intro w hSw
          try dsimp only at hSw
          go_simp
          try with_reducible rfl
        try simp only [Act.put, List.setIfInBounds_toArray, List.set_cons_zero, List.set_cons_succ]
        refine wpAnyH_ready (rs := [12]) (by kernel_rfl) (by simp) ?_
        refine AllReadyH.cons (o := ?oic12) ?hic12 (fun K hK => ?stc12) AllReadyH.nil
        case hic12 => simp only [List.getElem?_toArray, List.getElem?_cons_succ, List.getElem?_cons_zero]; exact rfl
        go_simp
        (go_at_call 9; (with_reducible refine (HC2.out _ (by first | exact HMB.out | exact HMA.out | exact HM9.out | exact HM9.out.drew)).mono ?_); rintro e wxC ⟨cs1, rfl, hown, hm⟩; have hmC : New w7 wxC := (by first | exact HMB.out.trans hm | exact HMA.out.trans hm | exact HM9.out.trans hm | exact HM9.out.drew.trans hm); obtain ⟨B1, q1, d1, B2, q2, d2, G1, G2, rfl, ho1, ho2, -⟩ := hown; have hr : repState.cells wxC wxC.heap.size S2 [.int .i64 S2.tick, .slice B1 q1 d1, .slice B2 q2 d2] := ⟨_, _, _, _, _, _, rfl, ho1.read part_reads, ho2.read proc_reads⟩; rw [ht2] at hr; have HX1 := Lib.hid fun W (hW : New wxC W) => same_state (repState.more hW.size (repState.stays (fun p hp => hW.cell hp id) hr)) (HS2.out W (hmC.trans hW)) (Nat.le_refl _); rw [eqb_true rfl] at HX1; obtain ⟨⟨y0, y1, y2, y3, y4, y5, y6, z0, z1, z2⟩, ⟨t0, t1, t2⟩, ⟨r0, r1, r2⟩⟩ := HALL.out wxC hmC; have HMC := Lib.hid hmC; clear hm ho1 ho2 hr hmC)
        refine hK.out _ _ ?hS1c12 (fun hHeld => ?restc12)
        case hS1c12 =>
          try dsimp only
          (first | (refine ⟨?_, ?_, ?_, ?_, ?_, ?_, ?_, ?_, ?_, ?_, ?_, ?_, ?_⟩ <;> with_reducible assumption) | go_keep)
        clear hK K
        try simp only [Act.put, List.setIfInBounds_toArray, List.set_cons_zero, List.set_cons_succ]
        refine wpAnyH_ready (rs := [14]) (by kernel_rfl) (by simp) ?_
        refine AllReadyH.cons (o := ?oic14) ?hic14 (fun K hK => ?stc14) AllReadyH.nil
        case hic14 => simp only [List.getElem?_toArray, List.getElem?_cons_succ, List.getElem?_cons_zero]; exact rfl
        go_simp
        (go_at_call 13; (with_reducible refine (HX1.out _ (Kept.refl _ _)).mono ?_); rintro e wxD ⟨rfl, hm⟩; have hmD : New w7 wxD := HMC.out.trans hm; obtain ⟨⟨y0, y1, y2, y3, y4, y5, y6, z0, z1, z2⟩, ⟨t0, t1, t2⟩, ⟨r0, r1, r2⟩⟩ := HALL.out wxD hmD; have HMD := Lib.hid hmD; clear hm hmD)
        refine hK.out _ _ ?hS1c14 (fun hHeld => ?restc14)
        case hS1c14 =>
          try dsimp only
          (first | (refine ⟨?_, ?_, ?_, ?_, ?_, ?_, ?_, ?_, ?_, ?_, ?_, ?_, ?_⟩ <;> with_reducible assumption) | go_keep)
        clear hK K
        try simp only [Act.put, List.setIfInBounds_toArray, List.set_cons_zero, List.set_cons_succ]
        refine wpAnyH_take (i := 15) (oi := ?oi15) (v := ?vv15) ?hi15 (by kernel_rfl) ?hf15 ?hr15 ?hQ15 ?hy15 (by assumption) ?rest15
        case hi15 => simp only [List.getElem?_toArray, List.getElem?_cons_succ, List.getElem?_cons_zero]; exact rfl
        case hQ15 => exact fun _ _ _ h => h
        case hf15 => kernel_rfl
        case hr15 => kernel_rfl
        case hy15 =>
          refine Or.inl ⟨by rfl, ?_⟩
          intro w hSw
          try dsimp only at hSw
          go_simp
          try with_reducible rfl
        try simp only [Act.put, List.setIfInBounds_toArray, List.set_cons_zero, List.set_cons_succ]
        refine wpAnyH_take (i := 16) (oi := ?oi16) (v := ?vv16) ?hi16 (by kernel_rfl) ?hf16 ?hr16 ?hQ16 ?hy16 (by assumption) ?rest16
        case hi16 => simp only [List.getElem?_toArray, List.getElem?_cons_succ, List.getElem?_cons_zero]; exact rfl
        case hQ16 => exact fun _ _ _ h => h
        case hf16 => kernel_rfl
        case hr16 => kernel_rfl
        case hy16 =>
          refine Or.inl ⟨by rfl, ?_⟩
          intro w hSw
          try dsimp only at hSw
          go_simp
          try with_reducible rfl
        try simp only [Act.put, List.setIfInBounds_toArray, List.set_cons_zero, List.set_cons_succ]
        refine wpAnyH_take (i := 17) (oi := ?oi17) (v := ?vv17) ?hi17 (by kernel_rfl) ?hf17 ?hr17 ?hQ17 ?hy17 (by assumption) ?rest17
        case hi17 => simp only [List.getElem?_toArray, List.getElem?_cons_succ, List.getElem?_cons_zero]; exact rfl
        case hQ17 => exact fun _ _ _ h => h
        case hf17 => kernel_rfl
        case hr17 => kernel_rfl
        case hy17 =>
          refine Or.inl ⟨by rfl, ?_⟩
          intro w hSw
          try dsimp only at hSw
          go_simp
          try with_reducible rfl
        try simp only [Act.put, List.setIfInBounds_toArray, List.set_cons_zero, List.set_cons_succ]
        refine wpAnyH_take (i := 18) (oi := ?oi18) (v := ?vv18) ?hi18 (by kernel_rfl) ?hf18 ?hr18 ?hQ18 ?hy18 (by assumption) ?rest18
        case hi18 => simp only [List.getElem?_toArray, List.getElem?_cons_succ, List.getElem?_cons_zero]; exact rfl
        case hQ18 => exact fun _ _ _ h => h
        case hf18 => kernel_rfl
        case hr18 => kernel_rfl
        case hy18 =>
          refine Or.inl ⟨by rfl, ?_⟩
          intro w hSw
          try dsimp only at hSw
          go_simp
          try with_reducible rfl
        try simp only [Act.put, List.setIfInBounds_toArray, List.set_cons_zero, List.set_cons_succ]
        refine wpAnyH_take (i := 19) (oi := ?oi19) (v := ?vv19) ?hi19 (by kernel_rfl) ?hf19 ?hr19 ?hQ19 ?hy19 (by assumption) ?rest19
        case hi19 => simp only [List.getElem?_toArray, List.getElem?_cons_succ, List.getElem?_cons_zero]; exact rfl
        case hQ19 => exact fun _ _ _ h => h
        case hf19 => kernel_rfl
        case hr19 => kernel_rfl
        case hy19 =>
          refine Or.inl ⟨by rfl, ?_⟩
          intro w hSw
          try dsimp only at hSw
          go_simp
          try with_reducible rfl
        try simp only [Act.put, List.setIfInBounds_toArray, List.set_cons_zero, List.set_cons_succ]
        refine wpAnyH_take (i := 21) (oi := ?oi21) (v := ?vv21) ?hi21 (by kernel_rfl) ?hf21 ?hr21 ?hQ21 ?hy21 (by assumption) ?rest21
        case hi21 => simp only [List.getElem?_toArray, List.getElem?_cons_succ, List.getElem?_cons_zero]; exact rfl
        case hQ21 => exact fun _ _ _ h => h
        case hf21 => kernel_rfl
        case hr21 => kernel_rfl
        case hy21 =>
          refine Or.inl ⟨by rfl, ?_⟩
          intro w hSw
          try dsimp only at hSw
          go_simp
          try with_reducible rfl
        try simp only [Act.put, List.setIfInBounds_toArray, List.set_cons_zero, List.set_cons_succ]
        refine wpAnyH_ready (rs := [20]) (by kernel_rfl) (by simp) ?_
        refine AllReadyH.cons (o := ?oic20) ?hic20 (fun K hK => ?stc20) AllReadyH.nil
        case hic20 => simp only [List.getElem?_toArray, List.getElem?_cons_succ, List.getElem?_cons_zero]; exact rfl
        go_simp
        (go_at_call 9; (with_reducible refine (HC3.out _ (by first | exact HMD.out | exact HMC.out | exact HMB.out | exact HMA.out | exact HM9.out | exact HM9.out.drew)).mono ?_); rintro e wxE ⟨cs2, rfl, hown, hm⟩; have hmE : New w7 wxE := (by first | exact HMD.out.trans hm | exact HMC.out.trans hm | exact HMB.out.trans hm | exact HMA.out.trans hm | exact HM9.out.trans hm | exact HM9.out.drew.trans hm); obtain ⟨B1, q1, d1, B2, q2, d2, G1, G2, rfl, ho1, ho2, -⟩ := hown; have hr : repState.cells wxE wxE.heap.size S2 [.int .i64 S2.tick, .slice B1 q1 d1, .slice B2 q2 d2] := ⟨_, _, _, _, _, _, rfl, ho1.read part_reads, ho2.read proc_reads⟩; rw [ht2] at hr; have HX2 := Lib.hid fun W (hW : New wxE W) => same_state (repState.more hW.size (repState.stays (fun p hp => hW.cell hp id) hr)) (HS2.out W (hmE.trans hW)) (Nat.le_refl _); rw [eqb_true rfl] at HX2; obtain ⟨⟨y0, y1, y2, y3, y4, y5, y6, z0, z1, z2⟩, ⟨t0, t1, t2⟩, ⟨r0, r1, r2⟩⟩ := HALL.out wxE hmE; have HME := Lib.hid hmE; clear hm ho1 ho2 hr hmE)
        refine hK.out _ _ ?hS1c20 (fun hHeld => ?restc20)
        case hS1c20 =>
          try dsimp only
          (first | (refine ⟨?_, ?_, ?_, ?_, ?_, ?_, ?_, ?_, ?_, ?_, ?_, ?_, ?_⟩ <;> with_reducible assumption) | go_keep)
        clear hK K
        try simp only [Act.put, List.setIfInBounds_toArray, List.set_cons_zero, List.set_cons_succ]
        refine wpAnyH_ready (rs := [22]) (by kernel_rfl) (by simp) ?_
        refine AllReadyH.cons (o := ?oic22) ?hic22 (fun K hK => ?stc22) AllReadyH.nil
        case hic22 => simp only [List.getElem?_toArray, List.getElem?_cons_succ, List.getElem?_cons_zero]; exact rfl
        go_simp
        (go_at_call 13; (with_reducible refine (HX2.out _ (Kept.refl _ _)).mono ?_); rintro e wxF ⟨rfl, hm⟩; have hmF : New w7 wxF := HME.out.trans hm; obtain ⟨⟨y0, y1, y2, y3, y4, y5, y6, z0, z1, z2⟩, ⟨t0, t1, t2⟩, ⟨r0, r1, r2⟩⟩ := HALL.out wxF hmF; have HMF := Lib.hid hmF; clear hm hmF)
        refine hK.out _ _ ?hS1c22 (fun hHeld => ?restc22)
        case hS1c22 =>
          try dsimp only
          (first | (refine ⟨?_, ?_, ?_, ?_, ?_, ?_, ?_, ?_, ?_, ?_, ?_, ?_, ?_⟩ <;> with_reducible assumption) | go_keep)
        clear hK K
        try simp only [Act.put, List.setIfInBounds_toArray, List.set_cons_zero, List.set_cons_succ]
        refine wpAnyH_take (i := 23) (oi := ?oi23) (v := ?vv23) ?hi23 (by kernel_rfl) ?hf23 ?hr23 ?hQ23 ?hy23 (by assumption) ?rest23
        case hi23 => simp only [List.getElem?_toArray, List.getElem?_cons_succ, List.getElem?_cons_zero]; exact rfl
        case hQ23 => exact fun _ _ _ h => h
        case hf23 => kernel_rfl
        case hr23 => kernel_rfl
        case hy23 =>
          refine Or.inl ⟨by rfl, ?_⟩
          intro w hSw
          try dsimp only at hSw
          go_simp
          try with_reducible rfl
        try simp only [Act.put, List.setIfInBounds_toArray, List.set_cons_zero, List.set_cons_succ]
        refine wpAnyH_take (i := 24) (oi := ?oi24) (v := ?vv24) ?hi24 (by kernel_rfl) ?hf24 ?hr24 ?hQ24 ?hy24 (by assumption) ?rest24
        case hi24 => simp only [List.getElem?_toArray, List.getElem?_cons_succ, List.getElem?_cons_zero]; exact rfl
        case hQ24 => exact fun _ _ _ h => h
        case hf24 => kernel_rfl
        case hr24 => kernel_rfl
        case hy24 =>
          refine Or.inl ⟨by rfl, ?_⟩
          intro w hSw
          try dsimp only at hSw
          go_simp
          try with_reducible rfl
        try simp only [Act.put, List.setIfInBounds_toArray, List.set_cons_zero, List.set_cons_succ]
        refine wpAnyH_take (i := 25) (oi := ?oi25) (v := ?vv25) ?hi25 (by kernel_rfl) ?hf25 ?hr25 ?hQ25 ?hy25 (by assumption) ?rest25
        case hi25 => simp only [List.getElem?_toArray, List.getElem?_cons_succ, List.getElem?_cons_zero]; exact rfl
        case hQ25 => exact fun _ _ _ h => h
        case hf25 => kernel_rfl
        case hr25 => kernel_rfl
        case hy25 =>
          refine Or.inl ⟨by rfl, ?_⟩
          intro w hSw
          try dsimp only at hSw
          go_simp
          try with_reducible rfl
        try simp only [Act.put, List.setIfInBounds_toArray, List.set_cons_zero, List.set_cons_succ]
        refine wpAnyH_take (i := 26) (oi := ?oi26) (v := ?vv26) ?hi26 (by kernel_rfl) ?hf26 ?hr26 ?hQ26 ?hy26 (by assumption) ?rest26
        case hi26 => simp only [List.getElem?_toArray, List.getElem?_cons_succ, List.getElem?_cons_zero]; exact rfl
        case hQ26 => exact fun _ _ _ h => h
        case hf26 => kernel_rfl
        case hr26 => kernel_rfl
        case hy26 =>
          refine Or.inl ⟨by rfl, ?_⟩
          intro w hSw
          try dsimp only at hSw
          go_simp
          try with_reducible rfl
        try simp only [Act.put, List.setIfInBounds_toArray, List.set_cons_zero, List.set_cons_succ]
        refine wpAnyH_take (i := 27) (oi := ?oi27) (v := ?vv27) ?hi27 (by kernel_rfl) ?hf27 ?hr27 ?hQ27 ?hy27 (by assumption) ?rest27
        case hi27 => simp only [List.getElem?_toArray, List.getElem?_cons_succ, List.getElem?_cons_zero]; exact rfl
        case hQ27 => exact fun _ _ _ h => h
        case hf27 => kernel_rfl
        case hr27 => kernel_rfl
        case hy27 =>
          refine Or.inl ⟨by rfl, ?_⟩
          intro w hSw
          try dsimp only at hSw
          go_simp
          try with_reducible rfl
        try simp only [Act.put, List.setIfInBounds_toArray, List.set_cons_zero, List.set_cons_succ]
        refine wpAnyH_take (i := 28) (oi := ?ois28) (v := undef) ?his28 (by kernel_rfl) ?hfs28 ?hrs28 ?hQs28 ?hys28 (by assumption) ?rests28
        case his28 => simp only [List.getElem?_toArray, List.getElem?_cons_succ, List.getElem?_cons_zero]; exact rfl
        case hQs28 => exact fun _ _ _ h => h
        case hfs28 => kernel_rfl
        case hrs28 => kernel_rfl
        case hys28 => exact Or.inr ⟨by rfl, rfl⟩
        try simp only [Act.put, List.setIfInBounds_toArray, List.set_cons_zero, List.set_cons_succ]
        refine wpAnyH_take (i := 29) (oi := ?oi29) (v := ?vv29) ?hi29 (by kernel_rfl) ?hf29 ?hr29 ?hQ29 ?hy29 (by assumption) ?rest29
        case hi29 => simp only [List.getElem?_toArray, List.getElem?_cons_succ, List.getElem?_cons_zero]; exact rfl
        case hQ29 => exact fun _ _ _ h => h
        case hf29 => kernel_rfl
        case hr29 => kernel_rfl
        case hy29 =>
          refine Or.inl ⟨by rfl, ?_⟩
          intro w hSw
          try dsimp only at hSw
          go_simp
          try with_reducible rfl
        try simp only [Act.put, List.setIfInBounds_toArray, List.set_cons_zero, List.set_cons_succ]
        refine wpAnyH_take (i := 30) (oi := ?oi30) (v := ?vv30) ?hi30 (by kernel_rfl) ?hf30 ?hr30 ?hQ30 ?hy30 (by assumption) ?rest30
        case hi30 => simp only [List.getElem?_toArray, List.getElem?_cons_succ, List.getElem?_cons_zero]; exact rfl
        case hQ30 => exact fun _ _ _ h => h
        case hf30 => kernel_rfl
        case hr30 => kernel_rfl
        case hy30 =>
          refine Or.inl ⟨by rfl, ?_⟩
          intro w hSw
          try dsimp only at hSw
          go_simp
          try with_reducible rfl
        try simp only [Act.put, List.setIfInBounds_toArray, List.set_cons_zero, List.set_cons_succ]
        refine wpAnyH_take (i := 31) (oi := ?oi31) (v := ?vv31) ?hi31 (by kernel_rfl) ?hf31 ?hr31 ?hQ31 ?hy31 (by assumption) ?rest31
        case hi31 => simp only [List.getElem?_toArray, List.getElem?_cons_succ, List.getElem?_cons_zero]; exact rfl
        case hQ31 => exact fun _ _ _ h => h
        case hf31 => kernel_rfl
        case hr31 => kernel_rfl
        case hy31 =>
          refine Or.inl ⟨by rfl, ?_⟩
          intro w hSw
          try dsimp only at hSw
          go_simp
          try with_reducible rfl
        try simp only [Act.put, List.setIfInBounds_toArray, List.set_cons_zero, List.set_cons_succ]
        refine wpAnyH_done (by kernel_rfl) ?_ _
        go_wp2_with fail
        go_ret
        exact ⟨rfl, HEND.out _ HMF.out⟩
    · go_wp2_with fail
      go_region_held3 (fun W => W.cell? ⟨b, 0, none⟩ = some (.slice Al nl cl) ∧ W.cell? ⟨b, 1, none⟩ = some (v1) ∧ W.cell? ⟨b, 2, none⟩ = some (v2) ∧ W.cell? ⟨b, 3, none⟩ = some (v3) ∧ W.cell? ⟨b, 4, none⟩ = some (v4) ∧ W.cell? ⟨b, 5, none⟩ = some (v5) ∧ W.cell? ⟨b, 6, none⟩ = some (.slice Ap np cp) ∧ W.cell? ⟨g1, 0, none⟩ = some (.int .i64 s.tick) ∧ W.cell? ⟨g1, 1, none⟩ = some (.slice A1 n1 c1) ∧ W.cell? ⟨g1, 2, none⟩ = some (.slice A2 n2 c2) ∧ W.cell? ⟨g2, 0, none⟩ = some (.int .i64 s.tick) ∧ W.cell? ⟨g2, 1, none⟩ = some (.slice A3 n3 c3) ∧ W.cell? ⟨g2, 2, none⟩ = some (.slice A4 n4 c4)) (first | (refine ⟨?_, ?_, ?_, ?_, ?_, ?_, ?_, ?_, ?_, ?_, ?_, ?_, ?_⟩ <;> with_reducible assumption) | go_keep)
        (first
          | (go_at_call 9; (with_reducible refine (HC1.out _ (by first | exact HM9.out | exact HM9.out.drew)).mono ?_); rintro e wxA ⟨cs0, rfl, hown, hm⟩; have hmA : New w7 wxA := (by first | exact HM9.out.trans hm | exact HM9.out.drew.trans hm); obtain ⟨B1, q1, d1, B2, q2, d2, G1, G2, rfl, ho1, ho2, -⟩ := hown; have hr : repState.cells wxA wxA.heap.size S1 [.int .i64 S1.tick, .slice B1 q1 d1, .slice B2 q2 d2] := ⟨_, _, _, _, _, _, rfl, ho1.read part_reads, ho2.read proc_reads⟩; rw [ht1] at hr; have HX0 := Lib.hid fun W (hW : New wxA W) => same_state (repState.more hW.size (repState.stays (fun p hp => hW.cell hp id) hr)) (HS1'.out W (hmA.trans hW)) (Nat.le_refl _); rw [eqb_true rfl] at HX0; obtain ⟨⟨y0, y1, y2, y3, y4, y5, y6, z0, z1, z2⟩, ⟨t0, t1, t2⟩, ⟨r0, r1, r2⟩⟩ := HALL.out wxA hmA; have HMA := Lib.hid hmA; clear hm ho1 ho2 hr hmA)
          | (go_at_call 13; (with_reducible refine (HX0.out _ (Kept.refl _ _)).mono ?_); rintro e wxB ⟨rfl, hm⟩; have hmB : New w7 wxB := HMA.out.trans hm; obtain ⟨⟨y0, y1, y2, y3, y4, y5, y6, z0, z1, z2⟩, ⟨t0, t1, t2⟩, ⟨r0, r1, r2⟩⟩ := HALL.out wxB hmB; have HMB := Lib.hid hmB; clear hm hmB)
          | (go_at_call 9; (with_reducible refine (HC2.out _ (by first | exact HMB.out | exact HMA.out | exact HM9.out | exact HM9.out.drew)).mono ?_); rintro e wxC ⟨cs1, rfl, hown, hm⟩; have hmC : New w7 wxC := (by first | exact HMB.out.trans hm | exact HMA.out.trans hm | exact HM9.out.trans hm | exact HM9.out.drew.trans hm); obtain ⟨B1, q1, d1, B2, q2, d2, G1, G2, rfl, ho1, ho2, -⟩ := hown; have hr : repState.cells wxC wxC.heap.size S2 [.int .i64 S2.tick, .slice B1 q1 d1, .slice B2 q2 d2] := ⟨_, _, _, _, _, _, rfl, ho1.read part_reads, ho2.read proc_reads⟩; rw [ht2] at hr; have HX1 := Lib.hid fun W (hW : New wxC W) => same_state (repState.more hW.size (repState.stays (fun p hp => hW.cell hp id) hr)) (HS2.out W (hmC.trans hW)) (Nat.le_refl _); rw [eqb_true rfl] at HX1; obtain ⟨⟨y0, y1, y2, y3, y4, y5, y6, z0, z1, z2⟩, ⟨t0, t1, t2⟩, ⟨r0, r1, r2⟩⟩ := HALL.out wxC hmC; have HMC := Lib.hid hmC; clear hm ho1 ho2 hr hmC)
          | (go_at_call 13; (with_reducible refine (HX1.out _ (Kept.refl _ _)).mono ?_); rintro e wxD ⟨rfl, hm⟩; have hmD : New w7 wxD := HMC.out.trans hm; obtain ⟨⟨y0, y1, y2, y3, y4, y5, y6, z0, z1, z2⟩, ⟨t0, t1, t2⟩, ⟨r0, r1, r2⟩⟩ := HALL.out wxD hmD; have HMD := Lib.hid hmD; clear hm hmD)
          | (go_at_call 9; (with_reducible refine (HC3.out _ (by first | exact HMD.out | exact HMC.out | exact HMB.out | exact HMA.out | exact HM9.out | exact HM9.out.drew)).mono ?_); rintro e wxE ⟨cs2, rfl, hown, hm⟩; have hmE : New w7 wxE := (by first | exact HMD.out.trans hm | exact HMC.out.trans hm | exact HMB.out.trans hm | exact HMA.out.trans hm | exact HM9.out.trans hm | exact HM9.out.drew.trans hm); obtain ⟨B1, q1, d1, B2, q2, d2, G1, G2, rfl, ho1, ho2, -⟩ := hown; have hr : repState.cells wxE wxE.heap.size S2 [.int .i64 S2.tick, .slice B1 q1 d1, .slice B2 q2 d2] := ⟨_, _, _, _, _, _, rfl, ho1.read part_reads, ho2.read proc_reads⟩; rw [ht2] at hr; have HX2 := Lib.hid fun W (hW : New wxE W) => same_state (repState.more hW.size (repState.stays (fun p hp => hW.cell hp id) hr)) (HS2.out W (hmE.trans hW)) (Nat.le_refl _); rw [eqb_true rfl] at HX2; obtain ⟨⟨y0, y1, y2, y3, y4, y5, y6, z0, z1, z2⟩, ⟨t0, t1, t2⟩, ⟨r0, r1, r2⟩⟩ := HALL.out wxE hmE; have HME := Lib.hid hmE; clear hm ho1 ho2 hr hmE)
          | (go_at_call 13; (with_reducible refine (HX2.out _ (Kept.refl _ _)).mono ?_); rintro e wxF ⟨rfl, hm⟩; have hmF : New w7 wxF := HME.out.trans hm; obtain ⟨⟨y0, y1, y2, y3, y4, y5, y6, z0, z1, z2⟩, ⟨t0, t1, t2⟩, ⟨r0, r1, r2⟩⟩ := HALL.out wxF hmF; have HMF := Lib.hid hmF; clear hm hmF))
      all_goals
        go_wp2_with fail
        go_ret
        exact ⟨rfl, HEND.out _ HMF.out⟩
end Go.Proofs.Ytgdmajockejpgaa.View
