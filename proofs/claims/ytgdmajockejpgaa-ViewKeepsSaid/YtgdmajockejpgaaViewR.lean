/- The walk of package view's copyProc (layer 18). -/
import Derived.Test.YtgdmajockejpgaaViewO
import Derived.Deep.RegionHeld3
namespace Go.Proofs.Ytgdmajockejpgaa.View
open Go.RowKit Go.Fb
set_option linter.unusedVariables false
set_option maxHeartbeats 4000000 in
theorem copyProc_any {w : World} {B : Nat} {x : Process} {v0 v1 v2 v3 v4 v5 v6 v7 v8 v9 v10 v11 v12 v13 v14 : Value} (h : repProc.cells w B x [v0, v1, v2, v3, v4, v5, v6, v7, v8, v9, v10, v11, v12, v13, v14]) (hB : B ≤ w.heap.size) (hs1 : x.lanes.length ≤ 1048576) (hs2 : ∀ l ∈ x.lanes, l.values.length ≤ 1048576 ∧ l.waiters.length ≤ 1048576) :
    Calls Try.prog 19 #[.agg #[v0, v1, v2, v3, v4, v5, v6, v7, v8, v9, v10, v11, v12, v13, v14]] w fun e w' => ∃ cs, e = .returned (.agg cs.toArray) ∧ procO.own w' (fun k => w.heap.size ≤ k ∧ k < w'.heap.size) x cs ∧ New w w' := by
  obtain ⟨Al, nl, cl, e, hl⟩ := h
  simp only [List.cons.injEq, and_true] at e
  obtain ⟨rfl, rfl, rfl, rfl, rfl, rfl, rfl, rfl, rfl, rfl, rfl, rfl, rfl, rfl, rfl⟩ := e
  have h1 := hl.len
  have kl := hl.bound
  obtain ⟨ll, el, hl⟩ := hl.known
  have HC1 := Lib.hid fun W (hW : New w W) => cloneLanes (hl.kept hW hB fun _ _ h => h) (Nat.le_trans hB hW.size) (by omega)
  have b1 : Blk ((w.alloc (.cells #[.int .i64 x.state, .int .i64 x.pc, .int .i64 x.r0, .int .i64 x.r1, .int .i64 x.r2, .int .i64 x.r3, .int .i64 x.r4, .int .i64 x.r5, .int .i64 x.r6, .int .i64 x.r7, .int .i64 x.cursor, .int .i64 x.timer, .bool x.fired, .int .i64 x.wake, .slice Al nl cl] 49)).alloc (.cells #[.int .i64 0, .int .i64 0, .int .i64 0, .int .i64 0, .int .i64 0, .int .i64 0, .int .i64 0, .int .i64 0, .int .i64 0, .int .i64 0, .int .i64 0, .int .i64 0, .bool false, .int .i64 0, .slice none 0 0] 49)) w.heap.size 49 #[.int .i64 x.state, .int .i64 x.pc, .int .i64 x.r0, .int .i64 x.r1, .int .i64 x.r2, .int .i64 x.r3, .int .i64 x.r4, .int .i64 x.r5, .int .i64 x.r6, .int .i64 x.r7, .int .i64 x.cursor, .int .i64 x.timer, .bool x.fired, .int .i64 x.wake, .slice Al nl cl] := (Blk.made _ _ _).alloc _
  have b2 : Blk ((w.alloc (.cells #[.int .i64 x.state, .int .i64 x.pc, .int .i64 x.r0, .int .i64 x.r1, .int .i64 x.r2, .int .i64 x.r3, .int .i64 x.r4, .int .i64 x.r5, .int .i64 x.r6, .int .i64 x.r7, .int .i64 x.cursor, .int .i64 x.timer, .bool x.fired, .int .i64 x.wake, .slice Al nl cl] 49)).alloc (.cells #[.int .i64 0, .int .i64 0, .int .i64 0, .int .i64 0, .int .i64 0, .int .i64 0, .int .i64 0, .int .i64 0, .int .i64 0, .int .i64 0, .int .i64 0, .int .i64 0, .bool false, .int .i64 0, .slice none 0 0] 49)) (w.heap.size + 1) 49 #[.int .i64 0, .int .i64 0, .int .i64 0, .int .i64 0, .int .i64 0, .int .i64 0, .int .i64 0, .int .i64 0, .int .i64 0, .int .i64 0, .int .i64 0, .int .i64 0, .bool false, .int .i64 0, .slice none 0 0] := Blk.made_at _ _ _ _ (by simp)
  have hn : New w ((w.alloc (.cells #[.int .i64 x.state, .int .i64 x.pc, .int .i64 x.r0, .int .i64 x.r1, .int .i64 x.r2, .int .i64 x.r3, .int .i64 x.r4, .int .i64 x.r5, .int .i64 x.r6, .int .i64 x.r7, .int .i64 x.cursor, .int .i64 x.timer, .bool x.fired, .int .i64 x.wake, .slice Al nl cl] 49)).alloc (.cells #[.int .i64 0, .int .i64 0, .int .i64 0, .int .i64 0, .int .i64 0, .int .i64 0, .int .i64 0, .int .i64 0, .int .i64 0, .int .i64 0, .int .i64 0, .int .i64 0, .bool false, .int .i64 0, .slice none 0 0] 49)) := ((Kept.refl _ _).alloc _).alloc _
  have B1 := Lib.hid b1
  have B2 := Lib.hid b2
  have HN := Lib.hid hn
  have H1 := Lib.hid h1
  have EL := Lib.hid el
  have HL := Lib.hid hl
  have HS1 := Lib.hid hs1
  have HS2 := Lib.hid hs2
  clear b1 b2 hn h1 el hl hs1 hs2
  go_enter Try.func19, Try.ntmps19
  go_upto_region 1 with (fail)
  generalize (w.alloc (.cells #[.int .i64 x.state, .int .i64 x.pc, .int .i64 x.r0, .int .i64 x.r1, .int .i64 x.r2, .int .i64 x.r3, .int .i64 x.r4, .int .i64 x.r5, .int .i64 x.r6, .int .i64 x.r7, .int .i64 x.cursor, .int .i64 x.timer, .bool x.fired, .int .i64 x.wake, .slice Al nl cl] 49)).alloc (.cells #[.int .i64 0, .int .i64 0, .int .i64 0, .int .i64 0, .int .i64 0, .int .i64 0, .int .i64 0, .int .i64 0, .int .i64 0, .int .i64 0, .int .i64 0, .int .i64 0, .bool false, .int .i64 0, .slice none 0 0] 49) = w1 at *
  have z5 := B1.out.cell 14
  simp only [List.getElem?_toArray, List.getElem?_cons_zero, List.getElem?_cons_succ] at z5
  have hbl := B2.out.lt
  have hB' := hB
  have HBW : Hid (w.heap.size + 1 < w1.heap.size) := Lib.hid hbl
  clear hbl
  have hc1 := HC1.out w1 HN.out
  generalize hbw : w.heap.size = b at *
  have hB' : B ≤ w.heap.size := by rw [hbw]; exact hB
  have HBE : Hid (w.heap.size = b) := Lib.hid hbw
  clear hbw
  have HC1' := Lib.hid hc1
  clear hc1
  go_wp2_with fail
  refine HC1'.out.mono ?_
  rintro e w4 ⟨r3, A3, c3, rfl, hr3, hf3, hm4⟩
  have hb4' := B1.out.kept hm4 id
  have z5 := hb4'.cell 14
  have f5 := hb4'.free 14
  simp only [List.getElem?_toArray, List.getElem?_cons_zero, List.getElem?_cons_succ] at z5
  have hk5 := Kept.set1 w4 b 14 (.slice A3 nl c3)
  have hb5 := hb4'.set (i := 14) (.slice A3 nl c3)
  simp [Array.setIfInBounds] at hb5
  have hb6 := (B2.out.kept hm4 id).other (p := ⟨b, 14, none⟩) (by simp) (.slice A3 nl c3)
  have HF3 : Hid (∀ k, r3 = some k → b + 1 < k) := Lib.hid fun k e => by have := hf3 k e; have := HBW.out; omega
  have HR3 := Lib.hid (hr3.of_kept (by decide) hk5 fun k e e' => by have := HF3.out k e; omega)
  have HN5 : Hid (New w _) := Lib.hid ((HN.out.trans hm4).step hk5 fun k hk e => by have := HBE.out; omega)
  have HB5 := Lib.hid hb5
  have HB6 := Lib.hid hb6
  have HK5 := Lib.hid hk5
  have HM4 := Lib.hid hm4
  clear hb5 hb6 hk5 hm4
  clear hr3 hf3 hb4'
  go_upto_region 2 with (fail)
  generalize w4.setCell ⟨b, 14, none⟩ (.slice A3 nl c3) = w5 at *
  have z5 := HB5.out.cell 14
  simp only [List.getElem?_toArray, List.getElem?_cons_zero, List.getElem?_cons_succ] at z5
  have hqb := HR3.out.bound
  have hmix : OSl laneO.or w5 (fun k => r3 = some k ∨ (w5.heap.size ≤ k ∧ k < w5.heap.size)) A3 nl c3 (ll.map fun q => .inr q.2) :=
    OSl.of_row (f := fun x => match x with | .inl _ => [] | .inr cs => cs) (r := r3) (by
      rw [List.flatMap_map]; exact HR3.out) (fun x hx => by
        obtain ⟨q, hq, rfl⟩ := List.mem_map.1 hx
        obtain ⟨es, h1, h2⟩ := HL.out.cells_mem q hq
        exact repLane.length h2) (by rw [List.length_map]; exact HL.out.len) (fun k e => .inl e) (fun x hx => by
        obtain ⟨q, hq, rfl⟩ := List.mem_map.1 hx
        obtain ⟨es, h1, h2⟩ := HL.out.cells_mem q hq
        exact ⟨rfl, repLane.length h2⟩)
  have HMIX := Lib.hid hmix
  clear hmix
  go_wp2_with fail
  go_loopw [12] (fun s wr => ∃ i : Nat, i ≤ nl ∧ s = .int .i64 i ∧ Kept (fun k => r3 = some k) w5 wr ∧ OSl laneO.or wr (fun k => r3 = some k ∨ (w5.heap.size ≤ k ∧ k < wr.heap.size)) A3 nl c3 (((ll.take i).map fun q => .inl q.1) ++ ((ll.drop i).map fun q => .inr q.2))) (fun s _ => (nl - intOf s).toNat)
  case atStart => exact ⟨0, Nat.zero_le _, rfl, Kept.refl _ _, HMIX.out⟩
  case round =>
    obtain ⟨i, hi, rfl, hkr, hmx⟩ := hrel
    have hql := HL.out.len
    by_cases hlt : i < nl
    · have hiL : i < ll.length := by omega
      have hg : (((ll.take i).map fun q => (Sum.inl q.1 : Lane ⊕ List Value)) ++ ((ll.drop i).map fun q => .inr q.2))[i]? = some (.inr (ll[i]'hiL).2) := by
        rw [List.getElem?_append_right (by simp; omega), List.length_map, List.length_take, Nat.min_eq_left (by omega), Nat.sub_self, List.getElem?_map, List.getElem?_drop, Nat.add_zero, List.getElem?_eq_getElem hiL]
        rfl
      obtain ⟨hgl, hge⟩ := List.getElem?_eq_some_iff.1 hg
      obtain ⟨g, o, cs, Fi, rfl, hgF, hFi, hown, hcell⟩ := hmx.at_ i hgl
      rw [hge] at hown
      obtain ⟨rfl, -⟩ := hown
      obtain ⟨es, he1, he2⟩ := HL.out.cells_mem ll[i] (List.getElem_mem hiL)
      obtain ⟨Av, nv, cv, Aw, nw, cw, hqe, hsv, hsw, hwf1, hwf2⟩ := he2
      rw [hqe] at hcell hge
      have hg3 : r3 = some g := by
        obtain ⟨g', o', e1, e2, -⟩ := HR3.out.at_pos (by omega)
        injection e2 with e2
        injection e2 with eg
        rw [eg]; exact e1
      have hnr : New w wr := HN5.out.step hkr fun k hk e => by have := HF3.out k e; have := HBE.out; omega
      have hb5r := HB5.out.kept hkr fun e => by have := HF3.out b e; omega
      have z5 := hb5r.cell 14
      change ∀ j, j < 4 → wr.cell? ⟨g, o + i * 4 + j, none⟩ = _ ∧ wr.frozen? ⟨g, o + i * 4 + j, none⟩ = false at hcell
      have x0 := (hcell 0 (by decide)).1
      have x1 := (hcell 1 (by decide)).1
      have x2 := (hcell 2 (by decide)).1
      have x3 := (hcell 3 (by decide)).1
      have q0 := (hcell 0 (by decide)).2
      have q1 := (hcell 1 (by decide)).2
      simp only [Nat.add_zero, List.getElem?_toArray, List.getElem?_cons_zero, List.getElem?_cons_succ] at z5 x0 x1 x2 x3 q0
      have hsz2 := HS2.out ll[i].1 (by rw [← EL.out]; exact List.mem_map_of_mem (List.getElem_mem hiL))
      have hnv : nv ≤ 1048576 := by have := hsv.len; omega
      have hnw : nw ≤ 1048576 := by have := hsw.len; omega
      have kv := hsv.bound
      have kw := hsw.bound
      have hms := mix_set (γ := Lane ⊕ List Value) (fun q : Lane × List Value => .inl q.1) (fun q => .inr q.2) ll i hiL
      have e2 : (0 : Int) ≤ (i : Int) := by omega
      have e3 : (i : Int) < (nl : Int) := by omega
      have HGB : Hid (b + 1 < g ∧ g < wr.heap.size) := Lib.hid ⟨HF3.out g hg3, by have := HR3.out.lt (by decide) g hg3; have := hkr.size; omega⟩
      generalize ll[i].1 = qi at *
      have hal : New wr (wr.alloc (.cells #[.slice Av nv cv, .slice Aw nw cw, .int .i64 qi.taken, .int .i64 qi.dropped] 53)) := (Kept.refl _ _).alloc _
      have hbx := Blk.made wr 53 #[.slice Av nv cv, .slice Aw nw cw, .int .i64 qi.taken, .int .i64 qi.dropped]
      have HKR := Lib.hid hkr
      have HMX := Lib.hid hmx
      have HMS := Lib.hid hms
      have HGE := Lib.hid hge
      have HG3 := Lib.hid hg3
      have HNR := Lib.hid hnr
      have HSV := Lib.hid hsv
      have HSW := Lib.hid hsw
      have HWF1 := Lib.hid hwf1
      have HWF2 := Lib.hid hwf2
      have HAL := Lib.hid hal
      have HBX := Lib.hid hbx
      clear hkr hmx hms hge hg3 hnr hsv hsw hwf1 hwf2 hal hbx
      clear hb5r hg hcell hqe he1 hiL hFi hgF hql hsz2
      go_upto_region 5 with (fail)
      generalize wr.alloc (.cells #[.slice Av nv cv, .slice Aw nw cw, .int .i64 qi.taken, .int .i64 qi.dropped] 53) = w6 at *
      have x0 := (HAL.out.cell (p := ⟨g, o + i * 4, none⟩) (lt_of_cell x0).1 id).trans x0
      have x1 := (HAL.out.cell (p := ⟨g, o + i * 4 + 1, none⟩) (lt_of_cell x1).1 id).trans x1
      have q0 := (HAL.out.frozen (p := ⟨g, o + i * 4, none⟩) HGB.out.2 id).trans q0
      have q1 := (HAL.out.frozen (p := ⟨g, o + i * 4 + 1, none⟩) HGB.out.2 id).trans q1
      have z5 := (HAL.out.cell (p := ⟨b, 14, none⟩) (lt_of_cell z5).1 id).trans z5
      have y0 := HBX.out.cell 0
      have y1 := HBX.out.cell 1
      simp only [List.getElem?_toArray, List.getElem?_cons_zero, List.getElem?_cons_succ] at y0 y1
      clear x2 x3
      have hgl2 : wr.heap.size < w6.heap.size := HBX.out.lt
      have HXC : Hid (∀ W, New w6 W → W.cell? ⟨g, o + i * 4, none⟩ = some (.slice Av nv cv) ∧ W.cell? ⟨g, o + i * 4 + 1, none⟩ = some (.slice Aw nw cw) ∧ W.frozen? ⟨g, o + i * 4, none⟩ = false ∧ W.frozen? ⟨g, o + i * 4 + 1, none⟩ = false ∧ W.cell? ⟨b, 14, none⟩ = some (.slice (some ⟨g, o, none⟩) nl c3) ∧ W.cell? ⟨wr.heap.size, 0, none⟩ = some (.slice Av nv cv) ∧ W.cell? ⟨wr.heap.size, 1, none⟩ = some (.slice Aw nw cw)) := Lib.hid fun W hW =>
        ⟨(hW.cell (p := ⟨g, o + i * 4, none⟩) (lt_of_cell x0).1 id).trans x0, (hW.cell (p := ⟨g, o + i * 4 + 1, none⟩) (lt_of_cell x1).1 id).trans x1, (hW.frozen (p := ⟨g, o + i * 4, none⟩) (lt_of_cell x0).1 id).trans q0, (hW.frozen (p := ⟨g, o + i * 4 + 1, none⟩) (lt_of_cell x0).1 id).trans q1, (hW.cell (p := ⟨b, 14, none⟩) (lt_of_cell z5).1 id).trans z5, (hW.cell (p := ⟨wr.heap.size, 0, none⟩) (lt_of_cell y0).1 id).trans y0, (hW.cell (p := ⟨wr.heap.size, 1, none⟩) (lt_of_cell y1).1 id).trans y1⟩
      have HCV := Lib.hid fun W (hW : New w6 W) => ownVals (HSV.out.kept (HNR.out.trans (HAL.out.trans hW)) hB' fun _ _ h => h) (Nat.le_trans hB' (HNR.out.trans (HAL.out.trans hW)).size) hnv
      have HCW := Lib.hid fun W (hW : New w6 W) => ownWaits (HSW.out.kept (HNR.out.trans (HAL.out.trans hW)) hB' fun _ _ h => h) (Nat.le_trans hB' (HNR.out.trans (HAL.out.trans hW)).size) hnw
      have HGL2 := Lib.hid hgl2
      clear hgl2
      generalize hbx4 : wr.heap.size = bx at *
      have HBX4 : Hid (wr.heap.size = bx) := Lib.hid hbx4
      clear hbx4
      have n1 : ¬ g = b := by have := HGB.out; omega
      have n2 : ¬ g = bx := by have := HGB.out; omega
      go_region_held3 (fun W => W.cell? ⟨b, 14, none⟩ = some (.slice (some ⟨g, o, none⟩) nl c3) ∧ W.cell? ⟨bx, 0, none⟩ = some (.slice Av nv cv) ∧ W.cell? ⟨bx, 1, none⟩ = some (.slice Aw nw cw))
        (first | (refine ⟨?_, ?_, ?_⟩ <;> assumption) | (refine ⟨?_, ?_, ?_⟩ <;> (first | (rw [World.cell?_setCell_other _ _ _ _ (by intro e; injection e with e1; omega)]; assumption) | (rw [World.cell?_setCell_other _ _ _ _ (by intro e; injection e with e1; omega), World.cell?_setCell_other _ _ _ _ (by intro e; injection e with e1; omega)]; assumption))) | go_keep)
        (first
          | (go_at_call 32; refine (HCV.out _ (by first | exact HM2.out | exact Kept.refl _ _ | exact (Kept.refl _ _).drew)).mono ?_; rintro e wv ⟨ra, Aa, ca, rfl, hoa, hfa, hma⟩; have hM : New w6 wv := (by first | exact HM2.out.trans hma | exact hma | exact ((Kept.refl _ _).drew).trans hma); obtain ⟨x0, x1, q0, q1, z5, y0, y1⟩ := HXC.out wv hM; have HOA := Lib.hid hoa; have HFA := Lib.hid hfa; have HM1 := Lib.hid hM; clear hoa hfa hma hM)
          | (go_at_call 33; refine (HCW.out _ (by first | exact HM1.out | exact Kept.refl _ _ | exact (Kept.refl _ _).drew)).mono ?_; rintro e ww ⟨rb, Ab, cb, rfl, hob, hfb, hmb⟩; have hM : New w6 ww := (by first | exact HM1.out.trans hmb | exact hmb | exact ((Kept.refl _ _).drew).trans hmb); obtain ⟨x0, x1, q0, q1, z5, y0, y1⟩ := HXC.out ww hM; have HOB := Lib.hid hob; have HFB := Lib.hid hfb; have HMB := Lib.hid hmb; have HM2 := Lib.hid hM; clear hob hfb hmb hM))
      go_wp2_with fail
      go_roundw
      case rel =>
        have hka : New wr ww := HAL.out.trans HM2.out
        have hs0 := HBX4.out
        have hs1 := hka.size
        have hs2 := HKR.out.size
        have hs3 := HR3.out.lt (by decide)
        have hs4 := HAL.out.size
        have hs5 := HMB.out.size
        have hsa : w6.heap.size ≤ wv.heap.size := HM1.out.size
        have hfa : ∀ k, ra = some k → w6.heap.size ≤ k ∧ k < wv.heap.size := HFA.out
        refine ⟨i + 1, by omega, by go_num, ((HKR.out.trans (hka.mono fun _ _ h => h.elim)).setCell (.inr HG3.out) _).setCell (.inr HG3.out) _, ?_⟩
        have h1 := (HMX.out.new hka).set01 (O := laneO) (x := qi) (v1 := .slice Aa nv ca) (v2 := .slice Ab nw cb) (Fx := fun k => ra = some k ∨ rb = some k) rfl hgl HGE.out rfl
          ⟨Aa, nv, ca, Ab, nw, cb, _, _, rfl, HOA.out.new HMB.out, HOB.out, HWF1.out, HWF2.out, fun k e => ⟨.inl e, fun e' => by have := hfa k e; have := HFB.out k e'; omega⟩, fun k e => .inr e⟩ (fun k e e' => by
          have h1 : w6.heap.size ≤ k := by
            rcases e with e | e
            · exact (hfa k e).1
            · have := HFB.out k e; omega
          have h2 := HBX4.out
          rcases e' with e' | e'
          · have := hs3 k e'; omega
          · omega)
        rw [HMS.out] at h1
        refine h1.mono fun k e => ?_
        rw [← size_set, ← size_set]
        rcases e with (e | e) | e | e
        · exact .inl e
        · exact .inr ⟨e.1, by omega⟩
        · have := hfa k e; exact .inr ⟨by omega, by omega⟩
        · have := HFB.out k e; exact .inr ⟨by omega, by omega⟩
      case measure => simp [intOf]; omega
    · obtain rfl : nl = i := by omega
      have hmq : OSl laneO wr (fun k => r3 = some k ∨ (w5.heap.size ≤ k ∧ k < wr.heap.size)) A3 nl c3 x.lanes := by
        have e1 : ll.take nl = ll := List.take_of_length_le (by omega)
        have e2 : ll.drop nl = [] := List.drop_eq_nil_of_le (by omega)
        rw [e1, e2, List.map_nil, List.append_nil] at hmx
        refine hmx.map rfl (by rw [← EL.out, List.length_map, List.length_map]) fun i h1 h2 G cs _ h => ?_
        have e3 : x.lanes[i] = (ll[i]'(by simpa using h1)).1 := by
          have : (ll.map (·.1))[i]'(by simpa using h1) = (ll[i]'(by simpa using h1)).1 := by simp
          rw [← this]
          simp only [EL.out]
        rw [e3]
        have h' : laneO.or.own wr G (.inl (ll[i]'(by simpa using h1)).1) cs := by simpa using h
        exact h'
      have hbn : ¬ r3 = some b := fun e => by have := HF3.out b e; omega
      have hbn1 : ¬ r3 = some (b + 1) := fun e => by have := HF3.out _ e; omega
      have hb5r := HB5.out.kept hkr hbn
      have hb6r := HB6.out.kept hkr hbn1
      have z0 := hb5r.cell 0
      have z1 := hb5r.cell 1
      have z2 := hb5r.cell 2
      have z3 := hb5r.cell 3
      have z4 := hb5r.cell 4
      have z5 := hb5r.cell 5
      have z6 := hb5r.cell 6
      have z7 := hb5r.cell 7
      have z8 := hb5r.cell 8
      have z9 := hb5r.cell 9
      have z10 := hb5r.cell 10
      have z11 := hb5r.cell 11
      have z12 := hb5r.cell 12
      have z13 := hb5r.cell 13
      have z14 := hb5r.cell 14
      have y0 := hb6r.cell 0
      have y1 := hb6r.cell 1
      have y2 := hb6r.cell 2
      have y3 := hb6r.cell 3
      have y4 := hb6r.cell 4
      have y5 := hb6r.cell 5
      have y6 := hb6r.cell 6
      have y7 := hb6r.cell 7
      have y8 := hb6r.cell 8
      have y9 := hb6r.cell 9
      have y10 := hb6r.cell 10
      have y11 := hb6r.cell 11
      have y12 := hb6r.cell 12
      have y13 := hb6r.cell 13
      have y14 := hb6r.cell 14
      have q0 := hb6r.free 0
      have q1 := hb6r.free 1
      have q2 := hb6r.free 2
      have q3 := hb6r.free 3
      have q4 := hb6r.free 4
      have q5 := hb6r.free 5
      have q6 := hb6r.free 6
      have q7 := hb6r.free 7
      have q8 := hb6r.free 8
      have q9 := hb6r.free 9
      have q10 := hb6r.free 10
      have q11 := hb6r.free 11
      have q12 := hb6r.free 12
      have q13 := hb6r.free 13
      have q14 := hb6r.free 14
      simp only [List.getElem?_toArray, List.getElem?_cons_zero, List.getElem?_cons_succ] at z0 z1 z2 z3 z4 z5 z6 z7 z8 z9 z10 z11 z12 z13 z14 y0 y1 y2 y3 y4 y5 y6 y7 y8 y9 y10 y11 y12 y13 y14
      have HKR := Lib.hid hkr
      have HMQ := Lib.hid hmq
      have HB6R := Lib.hid hb6r
      clear hkr hmq hb6r
      clear hmx hb5r hbn hbn1 hql
      go_wp2_with fail
      have hbf : Blk (((((((((((((((wr.setCell ⟨b + 1, 0, none⟩ (.int .i64 x.state)).setCell ⟨b + 1, 1, none⟩ (.int .i64 x.pc)).setCell ⟨b + 1, 2, none⟩ (.int .i64 x.r0)).setCell ⟨b + 1, 3, none⟩ (.int .i64 x.r1)).setCell ⟨b + 1, 4, none⟩ (.int .i64 x.r2)).setCell ⟨b + 1, 5, none⟩ (.int .i64 x.r3)).setCell ⟨b + 1, 6, none⟩ (.int .i64 x.r4)).setCell ⟨b + 1, 7, none⟩ (.int .i64 x.r5)).setCell ⟨b + 1, 8, none⟩ (.int .i64 x.r6)).setCell ⟨b + 1, 9, none⟩ (.int .i64 x.r7)).setCell ⟨b + 1, 10, none⟩ (.int .i64 x.cursor)).setCell ⟨b + 1, 11, none⟩ (.int .i64 x.timer)).setCell ⟨b + 1, 12, none⟩ (.bool x.fired)).setCell ⟨b + 1, 13, none⟩ (.int .i64 x.wake)).setCell ⟨b + 1, 14, none⟩ (.slice A3 nl c3)) (b + 1) 49 #[.int .i64 x.state, .int .i64 x.pc, .int .i64 x.r0, .int .i64 x.r1, .int .i64 x.r2, .int .i64 x.r3, .int .i64 x.r4, .int .i64 x.r5, .int .i64 x.r6, .int .i64 x.r7, .int .i64 x.cursor, .int .i64 x.timer, .bool x.fired, .int .i64 x.wake, .slice A3 nl c3] := HB6R.out.setAll [.int .i64 x.state, .int .i64 x.pc, .int .i64 x.r0, .int .i64 x.r1, .int .i64 x.r2, .int .i64 x.r3, .int .i64 x.r4, .int .i64 x.r5, .int .i64 x.r6, .int .i64 x.r7, .int .i64 x.cursor, .int .i64 x.timer, .bool x.fired, .int .i64 x.wake, .slice A3 nl c3] rfl
      have hkf : Kept (fun k => k = b + 1) wr (((((((((((((((wr.setCell ⟨b + 1, 0, none⟩ (.int .i64 x.state)).setCell ⟨b + 1, 1, none⟩ (.int .i64 x.pc)).setCell ⟨b + 1, 2, none⟩ (.int .i64 x.r0)).setCell ⟨b + 1, 3, none⟩ (.int .i64 x.r1)).setCell ⟨b + 1, 4, none⟩ (.int .i64 x.r2)).setCell ⟨b + 1, 5, none⟩ (.int .i64 x.r3)).setCell ⟨b + 1, 6, none⟩ (.int .i64 x.r4)).setCell ⟨b + 1, 7, none⟩ (.int .i64 x.r5)).setCell ⟨b + 1, 8, none⟩ (.int .i64 x.r6)).setCell ⟨b + 1, 9, none⟩ (.int .i64 x.r7)).setCell ⟨b + 1, 10, none⟩ (.int .i64 x.cursor)).setCell ⟨b + 1, 11, none⟩ (.int .i64 x.timer)).setCell ⟨b + 1, 12, none⟩ (.bool x.fired)).setCell ⟨b + 1, 13, none⟩ (.int .i64 x.wake)).setCell ⟨b + 1, 14, none⟩ (.slice A3 nl c3)) := ((((((((((((((Kept.set1 wr (b + 1) 0 _).trans (Kept.set1 _ (b + 1) 1 _)).trans (Kept.set1 _ (b + 1) 2 _)).trans (Kept.set1 _ (b + 1) 3 _)).trans (Kept.set1 _ (b + 1) 4 _)).trans (Kept.set1 _ (b + 1) 5 _)).trans (Kept.set1 _ (b + 1) 6 _)).trans (Kept.set1 _ (b + 1) 7 _)).trans (Kept.set1 _ (b + 1) 8 _)).trans (Kept.set1 _ (b + 1) 9 _)).trans (Kept.set1 _ (b + 1) 10 _)).trans (Kept.set1 _ (b + 1) 11 _)).trans (Kept.set1 _ (b + 1) 12 _)).trans (Kept.set1 _ (b + 1) 13 _)).trans (Kept.set1 _ (b + 1) 14 _)
      generalize (((((((((((((((wr.setCell ⟨b + 1, 0, none⟩ (.int .i64 x.state)).setCell ⟨b + 1, 1, none⟩ (.int .i64 x.pc)).setCell ⟨b + 1, 2, none⟩ (.int .i64 x.r0)).setCell ⟨b + 1, 3, none⟩ (.int .i64 x.r1)).setCell ⟨b + 1, 4, none⟩ (.int .i64 x.r2)).setCell ⟨b + 1, 5, none⟩ (.int .i64 x.r3)).setCell ⟨b + 1, 6, none⟩ (.int .i64 x.r4)).setCell ⟨b + 1, 7, none⟩ (.int .i64 x.r5)).setCell ⟨b + 1, 8, none⟩ (.int .i64 x.r6)).setCell ⟨b + 1, 9, none⟩ (.int .i64 x.r7)).setCell ⟨b + 1, 10, none⟩ (.int .i64 x.cursor)).setCell ⟨b + 1, 11, none⟩ (.int .i64 x.timer)).setCell ⟨b + 1, 12, none⟩ (.bool x.fired)).setCell ⟨b + 1, 13, none⟩ (.int .i64 x.wake)).setCell ⟨b + 1, 14, none⟩ (.slice A3 nl c3)) = wF at *
      have y0 := hbf.cell 0
      have y1 := hbf.cell 1
      have y2 := hbf.cell 2
      have y3 := hbf.cell 3
      have y4 := hbf.cell 4
      have y5 := hbf.cell 5
      have y6 := hbf.cell 6
      have y7 := hbf.cell 7
      have y8 := hbf.cell 8
      have y9 := hbf.cell 9
      have y10 := hbf.cell 10
      have y11 := hbf.cell 11
      have y12 := hbf.cell 12
      have y13 := hbf.cell 13
      have y14 := hbf.cell 14
      simp only [List.getElem?_toArray, List.getElem?_cons_zero, List.getElem?_cons_succ] at y0 y1 y2 y3 y4 y5 y6 y7 y8 y9 y10 y11 y12 y13 y14
      refine bodyPost_ret (v := .agg #[.int .i64 x.state, .int .i64 x.pc, .int .i64 x.r0, .int .i64 x.r1, .int .i64 x.r2, .int .i64 x.r3, .int .i64 x.r4, .int .i64 x.r5, .int .i64 x.r6, .int .i64 x.r7, .int .i64 x.cursor, .int .i64 x.timer, .bool x.fired, .int .i64 x.wake, .slice A3 nl c3]) (by simp [results, Try.results19, go_sem, y0, y1, y2, y3, y4, y5, y6, y7, y8, y9, y10, y11, y12, y13, y14]) rfl ⟨[.int .i64 x.state, .int .i64 x.pc, .int .i64 x.r0, .int .i64 x.r1, .int .i64 x.r2, .int .i64 x.r3, .int .i64 x.r4, .int .i64 x.r5, .int .i64 x.r6, .int .i64 x.r7, .int .i64 x.cursor, .int .i64 x.timer, .bool x.fired, .int .i64 x.wake, .slice A3 nl c3], rfl, ⟨A3, nl, c3, rfl, (HMQ.out.kept hkf fun k e e' => ?_).mono fun k e => ?_⟩, ?_⟩
      · rcases e with e | e
        · have := HF3.out k e; omega
        · have := HB6.out.lt; omega
      · have := HBE.out
        have := HKR.out.size
        have := hkf.size
        rcases e with e | e
        · have := HF3.out k e; have := HR3.out.lt (by decide) k e; exact ⟨by omega, by omega⟩
        · have := HB6.out.lt; exact ⟨by omega, by omega⟩
      · refine ((HN5.out.step HKR.out fun k hk e => ?_)).step hkf fun k hk e => ?_
        · have := HF3.out k e; have := HBE.out; omega
        · have := HBE.out; omega
end Go.Proofs.Ytgdmajockejpgaa.View
