/- The walk of package view's Of (layer 18). -/
import Derived.Test.YtgdmajockejpgaaViewQ
import Derived.Test.YtgdmajockejpgaaViewR
import Derived.Test.YtgdmajockejpgaaViewS
import Derived.Test.YtgdmajockejpgaaViewN
import Derived.Test.YtgdmajockejpgaaViewL
import Derived.Deep.DeepCutAuto
namespace Go.Proofs.Ytgdmajockejpgaa.View
open Go.RowKit Go.Fb
set_option linter.unusedVariables false
def stateO : ORep State where
  size := 3
  pos := by decide
  own w F x cs := ∃ Ap np cp Aq nq cq, ∃ F1 F2 : Nat → Prop, cs = [.int .i64 x.tick, .slice Ap np cp, .slice Aq nq cq] ∧ OSl partO w F1 Ap np cp x.parts ∧ OSl procO w F2 Aq nq cq x.procs ∧ (∀ k, F1 k → F k ∧ ¬ F2 k) ∧ ∀ k, F2 k → F k
  length h := by obtain ⟨_, _, _, _, _, _, _, _, h, _⟩ := h; rw [h]; rfl
  kept h hk hg := by
    obtain ⟨a1, a2, a3, a4, a5, a6, F1, F2, h, h1, h2, h5, h6⟩ := h
    exact ⟨a1, a2, a3, a4, a5, a6, F1, F2, h, h1.kept hk fun k e => hg k (h5 k e).1, h2.kept hk fun k e => hg k (h6 k e), h5, h6⟩
  mono h hF := by
    obtain ⟨a1, a2, a3, a4, a5, a6, F1, F2, h, h1, h2, h5, h6⟩ := h
    exact ⟨a1, a2, a3, a4, a5, a6, F1, F2, h, h1, h2, fun k e => ⟨hF k (h5 k e).1, (h5 k e).2⟩, fun k e => hF k (h6 k e)⟩
theorem state_reads : Reads stateO repState := ⟨rfl, fun {w F x cs} h => by
  obtain ⟨a1, a2, a3, a4, a5, a6, F1, F2, h, h1, h2, -⟩ := h
  exact ⟨a1, a2, a3, a4, a5, a6, h, h1.read part_reads, h2.read proc_reads⟩⟩
/-- Lists that may be copied. -/
structure Few (s : State) : Prop where
  parts : s.parts.length ≤ 1048576
  inner : ∀ x ∈ s.parts, x.log.length ≤ 1048576 ∧ x.owners.length ≤ 1048576 ∧ x.queues.length ≤ 1048576 ∧ ∀ q ∈ x.queues, q.length ≤ 1048576
  procs : s.procs.length ≤ 1048576
  lanes : ∀ x ∈ s.procs, x.lanes.length ≤ 1048576 ∧ ∀ l ∈ x.lanes, l.values.length ≤ 1048576 ∧ l.waiters.length ≤ 1048576
def upTo {α : Type} (z : α) (l : List α) (is : Nat → Bool) (i : Nat) : List α := (List.range l.length).map fun j => if j < i ∧ is j = true then l.getD j z else z
def ofS (c : Config) (s : State) (a : Int) : State := ⟨s.tick, upTo zPart s.parts (fun j => partB c.labels j a) s.parts.length, upTo zProc s.procs (fun j => seesB c j a) s.procs.length⟩
section
variable {α : Type} {z : α} {l : List α} {is : Nat → Bool} {i : Nat}
theorem upTo_len : (upTo z l is i).length = l.length := by simp [upTo]
theorem upTo_zero : upTo z l is 0 = List.replicate l.length z := by
  refine List.ext_getElem (by simp [upTo]) fun j h1 h2 => by simp [upTo]
theorem upTo_yes (hi : i < l.length) (h : is i = true) : upTo z l is (i + 1) = (upTo z l is i).set i l[i] := by
  refine List.ext_getElem (by simp [upTo]) fun j h1 h2 => ?_
  rw [List.getElem_set]
  simp only [upTo, List.getElem_map, List.getElem_range]
  by_cases e : i = j
  · subst e; rw [if_pos ⟨by omega, h⟩, if_pos rfl, getD_at _ _ _ hi]
  · rw [if_neg e]
    by_cases c : j < i
    · by_cases d : is j = true
      · rw [if_pos ⟨by omega, d⟩, if_pos ⟨c, d⟩]
      · rw [if_neg (fun h => d h.2), if_neg (fun h => d h.2)]
    · rw [if_neg (by omega), if_neg (by omega)]
theorem upTo_no (h : is i = false) : upTo z l is (i + 1) = upTo z l is i := by
  refine List.ext_getElem (by simp [upTo]) fun j h1 h2 => ?_
  simp only [upTo, List.getElem_map, List.getElem_range]
  by_cases d : is j = true
  · by_cases c : j < i
    · rw [if_pos ⟨by omega, d⟩, if_pos ⟨c, d⟩]
    · rw [if_neg (fun h' => c (by
        rcases Nat.lt_or_eq_of_le (Nat.le_of_lt_succ h'.1) with e | e
        · exact e
        · rw [e, h] at d; cases d)), if_neg (fun h => c h.1)]
  · rw [if_neg (fun h => d h.2), if_neg (fun h => d h.2)]
end
set_option maxHeartbeats 8000000 in
theorem of_any {w : World} {B : Nat} {c : Config} {s : State} {v0 v1 v2 v3 v4 v5 v6 s0 s1 s2 : Value} (h : repConf.cells w B c [v0, v1, v2, v3, v4, v5, v6]) (hs : repState.cells w B s [s0, s1, s2]) (hB : B ≤ w.heap.size) (a : Int) (hf : Few s) :
    Calls Try.prog 9 #[.agg #[v0, v1, v2, v3, v4, v5, v6], .agg #[s0, s1, s2], .int .u64 a] w fun e w' => ∃ cs, e = .returned (.agg cs.toArray) ∧ stateO.own w' (fun k => w.heap.size ≤ k ∧ k < w'.heap.size) (ofS c s a) cs ∧ New w w' := by
  have HPT := Lib.hid fun W (hW : New w W) i => part_any (repConf.stays (fun p hp => hW.cell (Nat.lt_of_lt_of_le hp hB) id) h) (Nat.le_trans hB hW.size) i a
  have HSE := Lib.hid fun W (hW : New w W) i => sees_any (repConf.stays (fun p hp => hW.cell (Nat.lt_of_lt_of_le hp hB) id) h) (Nat.le_trans hB hW.size) i a
  obtain ⟨Al, nl, cl, u1, u2, u3, u4, u5, Ap, np, cp, e, ho, hl, hp⟩ := h
  simp only [List.cons.injEq, and_true] at e
  obtain ⟨rfl, rfl, rfl, rfl, rfl, rfl, rfl⟩ := e
  obtain ⟨o1, o2, o3, o4, o5⟩ := ho
  obtain ⟨Aa, na, ca, Ab, nb, cb, e, ha, hb⟩ := hs
  simp only [List.cons.injEq, and_true] at e
  obtain ⟨rfl, rfl, rfl⟩ := e
  have hna := ha.len
  have hnb := hb.len
  have hna2 : na ≤ 1048576 := by have := hf.parts; omega
  have hnb2 : nb ≤ 1048576 := by have := hf.procs; omega
  have ka := ha.bound
  have kb := hb.bound
  have mk1 := make_parts na hna2
  have mk2 := make_procs nb hnb2
  have RA := Lib.hid (sl_here ha hB)
  have RB := Lib.hid (sl_here hb hB)
  have b0 : Blk (((w.alloc (.cells #[.slice Al nl cl, v1, v2, v3, v4, v5, .slice Ap np cp] 26)).alloc (.cells #[.int .i64 s.tick, .slice Aa na ca, .slice Ab nb cb] 30)).alloc (.cells #[.int .i64 0, .slice none 0 0, .slice none 0 0] 30)) w.heap.size 26 #[.slice Al nl cl, v1, v2, v3, v4, v5, .slice Ap np cp] := ((Blk.made _ _ _).alloc _).alloc _
  have b1 : Blk (((w.alloc (.cells #[.slice Al nl cl, v1, v2, v3, v4, v5, .slice Ap np cp] 26)).alloc (.cells #[.int .i64 s.tick, .slice Aa na ca, .slice Ab nb cb] 30)).alloc (.cells #[.int .i64 0, .slice none 0 0, .slice none 0 0] 30)) (w.heap.size + 1) 30 #[.int .i64 s.tick, .slice Aa na ca, .slice Ab nb cb] := (Blk.made_at _ _ _ _ (by simp)).alloc _
  have b2 : Blk (((w.alloc (.cells #[.slice Al nl cl, v1, v2, v3, v4, v5, .slice Ap np cp] 26)).alloc (.cells #[.int .i64 s.tick, .slice Aa na ca, .slice Ab nb cb] 30)).alloc (.cells #[.int .i64 0, .slice none 0 0, .slice none 0 0] 30)) (w.heap.size + 2) 30 #[.int .i64 0, .slice none 0 0, .slice none 0 0] := Blk.made_at _ _ _ _ (by simp)
  have hn : New w (((w.alloc (.cells #[.slice Al nl cl, v1, v2, v3, v4, v5, .slice Ap np cp] 26)).alloc (.cells #[.int .i64 s.tick, .slice Aa na ca, .slice Ab nb cb] 30)).alloc (.cells #[.int .i64 0, .slice none 0 0, .slice none 0 0] 30)) := (((Kept.refl _ _).alloc _).alloc _).alloc _
  clear ha hb hl hp
  have B0 := Lib.hid b0
  have B1 := Lib.hid b1
  have B2 := Lib.hid b2
  have HN := Lib.hid hn
  have HNA := Lib.hid hna
  have HNB := Lib.hid hnb
  have HF := Lib.hid hf
  clear b0 b1 b2 hn hna hnb hf
  go_enter Try.func9, Try.ntmps9
  go_upto_region 1 with (fail)
  generalize ((w.alloc (.cells #[.slice Al nl cl, v1, v2, v3, v4, v5, .slice Ap np cp] 26)).alloc (.cells #[.int .i64 s.tick, .slice Aa na ca, .slice Ab nb cb] 30)).alloc (.cells #[.int .i64 0, .slice none 0 0, .slice none 0 0] 30) = w1 at *
  have z0 := B1.out.cell 0
  have z1 := B1.out.cell 1
  have z2 := B1.out.cell 2
  simp only [List.getElem?_toArray, List.getElem?_cons_zero, List.getElem?_cons_succ] at z0 z1 z2
  have hb2l := B2.out.lt
  have HBW : Hid (w.heap.size + 2 < w1.heap.size) := Lib.hid hb2l
  clear hb2l
  generalize hbw : w.heap.size = b at *
  have HBE : Hid (w.heap.size = b) := Lib.hid hbw
  have hB' : B ≤ w.heap.size := by rw [hbw]; exact hB
  clear hbw
  have HS : Hid (∀ W, New w1 W → W.cell? ⟨b + 1, 0, none⟩ = some (.int .i64 s.tick) ∧ W.cell? ⟨b + 1, 1, none⟩ = some (.slice Aa na ca) ∧ W.cell? ⟨b + 1, 2, none⟩ = some (.slice Ab nb cb)) := Lib.hid fun W hW => ⟨(B1.out.kept hW id).cell 0, (B1.out.kept hW id).cell 1, (B1.out.kept hW id).cell 2⟩
  go_cut [7] (fun z wx => ∃ gz gp gq, z = .pointer (some ⟨gz, 0, none⟩) ∧ Blk wx gz 30 #[.int .i64 s.tick, .slice (some ⟨gp, 0, none⟩) na na, .slice (some ⟨gq, 0, none⟩) nb nb] ∧ OSl partO wx (fun k => k = gp) (some ⟨gp, 0, none⟩) na na (List.replicate na zPart) ∧ OSl procO wx (fun k => k = gq) (some ⟨gq, 0, none⟩) nb nb (List.replicate nb zProc) ∧ New w1 wx ∧ (w1.heap.size ≤ gz ∧ w1.heap.size ≤ gp ∧ w1.heap.size ≤ gq) ∧ (gz ≠ gp ∧ gz ≠ gq ∧ gp ≠ gq) ∧ gp < wx.heap.size ∧ gq < wx.heap.size)
  case first =>
    go_region_held3 (fun W => W.cell? ⟨b + 1, 0, none⟩ = some (.int .i64 s.tick) ∧ W.cell? ⟨b + 1, 1, none⟩ = some (.slice Aa na ca) ∧ W.cell? ⟨b + 1, 2, none⟩ = some (.slice Ab nb cb)) (first | (refine HS.out _ ?_; repeat (first | exact Kept.refl _ _ | refine Kept.drew ?_ | refine Kept.alloc ?_ _ | refine Kept.setCell ?_ (.inl (by simp; try omega)) _)) | go_keep) ((fail))
    · go_wp2_with fail
      go_meet
      case rel => exact ⟨(w1.heap.size + 1 + 1), w1.heap.size, (w1.heap.size + 1), rfl, (Blk.made_at _ _ _ _ (by simp)).kept (Kept.refl (fun _ => False) _).drew id, (OSl.zeros_at na (by unfold maxLen; omega) rfl own_zPart _ (by simp)).new (((Kept.refl _ _).alloc _).alloc _).drew, (OSl.zeros_at nb (by unfold maxLen; omega) rfl own_zProc _ (by simp)).new ((Kept.refl _ _).alloc _).drew, (((Kept.refl _ _).alloc _).alloc _).alloc _ |>.drew, ⟨by omega, by omega, by omega⟩, ⟨by omega, by omega, by omega⟩, by show _ < (World.alloc _ _).heap.size; simp; try omega, by show _ < (World.alloc _ _).heap.size; simp; try omega⟩
    · go_wp2_with fail
      go_meet
      case rel => exact ⟨(w1.heap.size + 1), w1.heap.size, (w1.heap.size + 1 + 1), rfl, ((Blk.made_at _ _ _ _ (by simp)).alloc _).kept (Kept.refl (fun _ => False) _).drew id, (OSl.zeros_at na (by unfold maxLen; omega) rfl own_zPart _ (by simp)).new (((Kept.refl _ _).alloc _).alloc _).drew, (OSl.zeros_at nb (by unfold maxLen; omega) rfl own_zProc _ (by simp)).new (Kept.refl _ _).drew, (((Kept.refl _ _).alloc _).alloc _).alloc _ |>.drew, ⟨by omega, by omega, by omega⟩, ⟨by omega, by omega, by omega⟩, by show _ < (World.alloc _ _).heap.size; simp; try omega, by show _ < (World.alloc _ _).heap.size; simp; try omega⟩
    · go_wp2_with fail
      go_meet
      case rel => exact ⟨(w1.heap.size + 1 + 1), (w1.heap.size + 1), w1.heap.size, rfl, (Blk.made_at _ _ _ _ (by simp)).kept (Kept.refl (fun _ => False) _).drew id, (OSl.zeros_at na (by unfold maxLen; omega) rfl own_zPart _ (by simp)).new ((Kept.refl _ _).alloc _).drew, (OSl.zeros_at nb (by unfold maxLen; omega) rfl own_zProc _ (by simp)).new (((Kept.refl _ _).alloc _).alloc _).drew, (((Kept.refl _ _).alloc _).alloc _).alloc _ |>.drew, ⟨by omega, by omega, by omega⟩, ⟨by omega, by omega, by omega⟩, by show _ < (World.alloc _ _).heap.size; simp; try omega, by show _ < (World.alloc _ _).heap.size; simp; try omega⟩
    · go_wp2_with fail
      go_meet
      case rel => exact ⟨(w1.heap.size + 1), (w1.heap.size + 1 + 1), w1.heap.size, rfl, ((Blk.made_at _ _ _ _ (by simp)).alloc _).kept (Kept.refl (fun _ => False) _).drew id, (OSl.zeros_at na (by unfold maxLen; omega) rfl own_zPart _ (by simp)).new (Kept.refl _ _).drew, (OSl.zeros_at nb (by unfold maxLen; omega) rfl own_zProc _ (by simp)).new (((Kept.refl _ _).alloc _).alloc _).drew, (((Kept.refl _ _).alloc _).alloc _).alloc _ |>.drew, ⟨by omega, by omega, by omega⟩, ⟨by omega, by omega, by omega⟩, by show _ < (World.alloc _ _).heap.size; simp; try omega, by show _ < (World.alloc _ _).heap.size; simp; try omega⟩
    · go_wp2_with fail
      go_meet
      case rel => exact ⟨w1.heap.size, (w1.heap.size + 1), (w1.heap.size + 1 + 1), rfl, (((Blk.made_at _ _ _ _ (by simp)).alloc _).alloc _).kept (Kept.refl (fun _ => False) _).drew id, (OSl.zeros_at na (by unfold maxLen; omega) rfl own_zPart _ (by simp)).new ((Kept.refl _ _).alloc _).drew, (OSl.zeros_at nb (by unfold maxLen; omega) rfl own_zProc _ (by simp)).new (Kept.refl _ _).drew, (((Kept.refl _ _).alloc _).alloc _).alloc _ |>.drew, ⟨by omega, by omega, by omega⟩, ⟨by omega, by omega, by omega⟩, by show _ < (World.alloc _ _).heap.size; simp; try omega, by show _ < (World.alloc _ _).heap.size; simp; try omega⟩
    · go_wp2_with fail
      go_meet
      case rel => exact ⟨w1.heap.size, (w1.heap.size + 1 + 1), (w1.heap.size + 1), rfl, (((Blk.made_at _ _ _ _ (by simp)).alloc _).alloc _).kept (Kept.refl (fun _ => False) _).drew id, (OSl.zeros_at na (by unfold maxLen; omega) rfl own_zPart _ (by simp)).new (Kept.refl _ _).drew, (OSl.zeros_at nb (by unfold maxLen; omega) rfl own_zProc _ (by simp)).new ((Kept.refl _ _).alloc _).drew, (((Kept.refl _ _).alloc _).alloc _).alloc _ |>.drew, ⟨by omega, by omega, by omega⟩, ⟨by omega, by omega, by omega⟩, by show _ < (World.alloc _ _).heap.size; simp; try omega, by show _ < (World.alloc _ _).heap.size; simp; try omega⟩
  case rest =>
    obtain ⟨gz, gp, gq, rfl, hbz, hop, hoq, hn2, hgA, hgB, hgC⟩ := hcut
    have hb0 := B0.out.kept hn2 id
    have hb1 := B1.out.kept hn2 id
    have hb2 := B2.out.kept hn2 id
    have z1 := hb1.cell 1
    have z2 := hb1.cell 2
    simp only [List.getElem?_toArray, List.getElem?_cons_zero, List.getElem?_cons_succ] at z1 z2
    have hnc := HN.out.trans hn2
    have HG : Hid (b + 2 < gz ∧ b + 2 < gp ∧ b + 2 < gq ∧ gz ≠ gp ∧ gz ≠ gq ∧ gp ≠ gq ∧ gp < wc.heap.size ∧ gq < wc.heap.size) := Lib.hid (by have := HBW.out; have := HBE.out; omega)
    have HBZ := Lib.hid hbz
    have HOP := Lib.hid hop
    have HOQ := Lib.hid hoq
    have HNC := Lib.hid hnc
    have B0C := Lib.hid hb0
    have B1C := Lib.hid hb1
    have B2C := Lib.hid hb2
    clear hbz hop hoq hnc hb0 hb1 hb2
    clear hn2 hgA hgB hgC B0 B1 B2 HS mk1 mk2
    clear z0
    go_wp2_with fail
    go_loopw [26] (fun t wr => ∃ i : Nat, i ≤ na ∧ t = .int .i64 i ∧ Kept (fun k => k = gp) wc wr ∧ OSl partO wr (fun k => k = gp ∨ (wc.heap.size ≤ k ∧ k < wr.heap.size)) (some ⟨gp, 0, none⟩) na na (upTo zPart s.parts (fun j => partB c.labels j a) i)) (fun t _ => (na - intOf t).toNat)
    case atStart => exact ⟨0, Nat.zero_le _, rfl, Kept.refl _ _, by rw [upTo_zero, ← HNA.out]; exact HOP.out.mono fun k e => .inl e⟩
    case round =>
      obtain ⟨i, hi, rfl, hkr, hox⟩ := hrel
      have hg0 := HG.out
      have hnr : New w wr := HNC.out.step hkr fun k hk e => by have := HBE.out; have := HBW.out; omega
      by_cases hlt : i < na
      · have hiL : i < s.parts.length := by have := HNA.out; omega
        obtain ⟨g, o, cs, rfl, hcl, hc⟩ := RA.out i hiL
        have hcl2 := (hc wr hnr).2
        obtain ⟨p0, p1, p2, p3, p4, p5, p6, p7, p8, rfl, -⟩ := hcl2
        have hcx := (hc wr hnr).1
        change ∀ j, j < 6 → wr.cell? ⟨g, o + i * 6 + j, none⟩ = _ at hcx
        have x0 := hcx 0 (by decide)
        have x1 := hcx 1 (by decide)
        have x2 := hcx 2 (by decide)
        have x3 := hcx 3 (by decide)
        have x4 := hcx 4 (by decide)
        have x5 := hcx 5 (by decide)
        simp only [Nat.add_zero, List.getElem?_cons_zero, List.getElem?_cons_succ] at x0 x1 x2 x3 x4 x5
        have HCP := Lib.hid fun W (hW : New w W) => copyPart_any (hc W hW).2 (Nat.le_trans hB' hW.size) (HF.out.inner _ (List.getElem_mem hiL)).1 (HF.out.inner _ (List.getElem_mem hiL)).2.1 (HF.out.inner _ (List.getElem_mem hiL)).2.2.1 (HF.out.inner _ (List.getElem_mem hiL)).2.2.2
        have HYES := Lib.hid fun h => upTo_yes (z := zPart) (l := s.parts) (is := fun j => partB c.labels j a) hiL h
        have HNO := Lib.hid fun h => upTo_no (z := zPart) (l := s.parts) (is := fun j => partB c.labels j a) (i := i) h
        have hlen : i < (upTo zPart s.parts (fun j => partB c.labels j a) i).length := by rw [upTo_len]; exact hiL
        generalize s.parts[i] = x at *
        have hal : New wr (wr.alloc (.cells #[.int .i64 x.cursor, .slice p0 p1 p2, .int .i64 x.lost, .int .i64 x.forbidden, .slice p3 p4 p5, .slice p6 p7 p8] 43)) := (Kept.refl _ _).alloc _
        have hbx := Blk.made wr 43 #[.int .i64 x.cursor, .slice p0 p1 p2, .int .i64 x.lost, .int .i64 x.forbidden, .slice p3 p4 p5, .slice p6 p7 p8]
        have e2 : (0 : Int) ≤ (i : Int) := by omega
        have e3 : (i : Int) < (na : Int) := by omega
        have HKR := Lib.hid hkr
        have HOX := Lib.hid hox
        have HNR := Lib.hid hnr
        have HLEN := Lib.hid hlen
        have HAL := Lib.hid hal
        have HBX := Lib.hid hbx
        clear hkr hox hnr hlen hal hbx
        clear hc hcl hcx hiL
        go_upto_region 5 with (fail)
        generalize wr.alloc (.cells #[.int .i64 x.cursor, .slice p0 p1 p2, .int .i64 x.lost, .int .i64 x.forbidden, .slice p3 p4 p5, .slice p6 p7 p8] 43) = w6 at *
        clear x0 x1 x2 x3 x4 x5
        have hn6 := HNR.out.trans HAL.out
        have hk6 : Kept (fun k => k = gp) wc w6 := HKR.out.trans (HAL.out.mono fun _ _ h => h.elim)
        have hb0 := B0C.out.kept hk6 (fun e => by omega)
        have z0 := hb0.cell 0
        have z1 := hb0.cell 1
        have z2 := hb0.cell 2
        have z3 := hb0.cell 3
        have z4 := hb0.cell 4
        have z5 := hb0.cell 5
        have z6 := hb0.cell 6
        simp only [List.getElem?_toArray, List.getElem?_cons_zero, List.getElem?_cons_succ] at z0 z1 z2 z3 z4 z5 z6
        have hpt := HPT.out w6 hn6 i
        have hbz6 := HBZ.out.kept hk6 (fun e => by omega)
        have HGX : Hid (wr.heap.size < w6.heap.size) := Lib.hid HBX.out.lt
        have HPX : Hid (gp < wr.heap.size) := Lib.hid (by have := HKR.out.size; omega)
        generalize hbxe : wr.heap.size = bx at *
        have HBXE : Hid (wr.heap.size = bx) := Lib.hid hbxe
        have HN6 := Lib.hid hn6
        have HK6 := Lib.hid hk6
        have HBZ6 := Lib.hid hbz6
        clear hn6 hk6 hbz6
        clear hbxe hb0
        cases hp : partB c.labels i a with
        | false =>
          rw [hp] at hpt
          have hl2 := HNO.out hp
          have HPT := Lib.hid hpt
          have HL2 := Lib.hid hl2
          clear hpt hl2
          clear hp
          go_wp2_with fail
          refine HPT.out.mono ?_
          rintro e w7 ⟨rfl, hm7⟩
          have HM7 := Lib.hid hm7
          clear hm7
          go_wp2_with fail
          go_roundw
          case rel =>
            refine ⟨i + 1, by omega, by go_num, HK6.out.trans (HM7.out.mono fun _ _ h => h.elim), ?_⟩
            rw [HL2.out]
            refine (HOX.out.new (HAL.out.trans HM7.out)).mono fun k e => ?_
            have h1 := HAL.out.size; have h2 := HM7.out.size; have h3 := HBXE.out
            rcases e with e | e
            · exact .inl e
            · exact .inr ⟨e.1, by omega⟩
          case measure => simp [intOf]; omega
        | true =>
          rw [hp] at hpt
          have hl2 := HYES.out hp
          have HPT := Lib.hid hpt
          have HL2 := Lib.hid hl2
          clear hpt hl2
          clear hp
          go_wp2_with fail
          refine HPT.out.mono ?_
          rintro e w7 ⟨rfl, hm7⟩
          have HS : Hid (∀ W, New w7 W → W.cell? ⟨gz, 1, none⟩ = some (.slice (some ⟨gp, 0, none⟩) na na) ∧ W.cell? ⟨bx, 0, none⟩ = some (.int .i64 x.cursor) ∧ W.cell? ⟨bx, 1, none⟩ = some (.slice p0 p1 p2) ∧ W.cell? ⟨bx, 2, none⟩ = some (.int .i64 x.lost) ∧ W.cell? ⟨bx, 3, none⟩ = some (.int .i64 x.forbidden) ∧ W.cell? ⟨bx, 4, none⟩ = some (.slice p3 p4 p5) ∧ W.cell? ⟨bx, 5, none⟩ = some (.slice p6 p7 p8)) := Lib.hid fun W hW => by
            have h1 := HBZ6.out.kept (hm7.trans hW) id
            have h2 := HBX.out.kept (hm7.trans hW) id
            exact ⟨h1.cell 1, h2.cell 0, h2.cell 1, h2.cell 2, h2.cell 3, h2.cell 4, h2.cell 5⟩
          have HROW : Hid (∀ W, New w7 W → ∀ j, j < 6 → ∃ v, W.cell? ⟨gp, i * 6 + j, none⟩ = some v ∧ W.frozen? ⟨gp, i * 6 + j, none⟩ = false) := Lib.hid fun W hW j hj => by
            obtain ⟨g', o', cs', Fi, e2, hF, hFi, hown, hcc⟩ := (HOX.out.new ((HAL.out.trans hm7).trans hW)).at_ i HLEN.out
            injection e2 with e2
            injection e2 with eg eo
            subst eg; subst eo
            have h1 := hcc j hj
            have h2 := partO.length hown
            change _ = 6 at h2
            rw [show 0 + i * partO.size + j = i * 6 + j from by show 0 + i * 6 + j = _; omega] at h1
            exact ⟨_, h1.1.trans (List.getElem?_eq_getElem (by omega)), h1.2⟩
          have HM7 := Lib.hid hm7
          clear hm7
          go_wp2_with fail
          obtain ⟨z0, y0, y1, y2, y3, y4, y5⟩ := HS.out w7 (Kept.refl _ _)
          have n1 : ¬ gp = gz := by omega
          have n2 : ¬ gp = bx := by have := HPX.out; omega
          go_region_held3 (fun W => W.cell? ⟨gz, 1, none⟩ = some (.slice (some ⟨gp, 0, none⟩) na na) ∧ W.cell? ⟨bx, 0, none⟩ = some (.int .i64 x.cursor) ∧ W.cell? ⟨bx, 1, none⟩ = some (.slice p0 p1 p2) ∧ W.cell? ⟨bx, 2, none⟩ = some (.int .i64 x.lost) ∧ W.cell? ⟨bx, 3, none⟩ = some (.int .i64 x.forbidden) ∧ W.cell? ⟨bx, 4, none⟩ = some (.slice p3 p4 p5) ∧ W.cell? ⟨bx, 5, none⟩ = some (.slice p6 p7 p8))
            (first | (refine ⟨?_, ?_, ?_, ?_, ?_, ?_, ?_⟩ <;> with_reducible assumption) | (refine ⟨?_, ?_, ?_, ?_, ?_, ?_, ?_⟩ <;> (repeat (rw [World.cell?_setCell_other _ _ _ _ (by intro e; injection e with e1; omega)])) <;> with_reducible assumption) | go_keep)
            (first | (go_at_call 18; refine (HCP.out _ (by first | exact HN6.out.trans HM7.out | exact (HN6.out.trans HM7.out).drew)).mono ?_; rintro e w8 ⟨cs, rfl, hcs, hm8⟩; obtain ⟨d0, d1, d2, d3, d4, d5, d6, d7, d8, F1, F2, F3, rfl, hown⟩ := hcs; have hM : New w7 w8 := (by first | exact hm8 | exact ((Kept.refl _ _).drew).trans hm8); obtain ⟨z0, y0, y1, y2, y3, y4, y5⟩ := HS.out w8 hM; obtain ⟨v0, c0, f0⟩ := HROW.out w8 hM 0 (by decide); obtain ⟨v1, c1, f1⟩ := HROW.out w8 hM 1 (by decide); obtain ⟨v2, c2, f2⟩ := HROW.out w8 hM 2 (by decide); obtain ⟨v3, c3, f3⟩ := HROW.out w8 hM 3 (by decide); obtain ⟨v4, c4, f4⟩ := HROW.out w8 hM 4 (by decide); obtain ⟨v5, c5, f5⟩ := HROW.out w8 hM 5 (by decide); simp only [Nat.add_zero] at c0 f0; have HO8 := Lib.hid hown; have HM8 := Lib.hid hM; clear hown hm8 hM; simp only [partC]))
          go_wp2_with fail
          go_roundw
          case rel =>
            have hm78 := HM7.out.trans HM8.out
            have hsz := size_setCells' gp [.int .i64 x.cursor, .slice d0 d1 d2, .int .i64 x.lost, .int .i64 x.forbidden, .slice d3 d4 d5, .slice d6 d7 d8] (i * 6) w8
            refine ⟨i + 1, by omega, by go_num, Kept.setCells (G := fun k => k = gp) [.int .i64 x.cursor, .slice d0 d1 d2, .int .i64 x.lost, .int .i64 x.forbidden, .slice d3 d4 d5, .slice d6 d7 d8] (i * 6) w8 (HK6.out.trans (hm78.mono fun _ _ h => h.elim)) (.inr rfl), ?_⟩
            have h1 := HAL.out.size
            have h2 := HM7.out.size
            have h3 := HM8.out.size
            have h4 := HBXE.out
            have h5 := HKR.out.size
            have h6 := (HOX.out.new (HAL.out.trans hm78)).setCells (x := x) (cs := [.int .i64 x.cursor, .slice d0 d1 d2, .int .i64 x.lost, .int .i64 x.forbidden, .slice d3 d4 d5, .slice d6 d7 d8]) (Fx := fun k => w7.heap.size ≤ k ∧ k < w8.heap.size) HLEN.out rfl ⟨d0, d1, d2, d3, d4, d5, d6, d7, d8, F1, F2, F3, rfl, HO8.out⟩ (fun k e e' => by
              rcases e' with e' | e'
              · have := HG.out; omega
              · omega)
            rw [HL2.out]
            rw [show 0 + i * partO.size = i * 6 from by show 0 + i * 6 = _; omega] at h6
            refine h6.mono fun k e => ?_
            rcases e with (e | e) | e
            · exact .inl e
            · exact .inr ⟨e.1, by have e2 := e.2; exact Nat.lt_of_lt_of_eq (by omega : k < w8.heap.size) hsz.symm⟩
            · exact .inr ⟨by have e2 := e.1; omega, by have e2 := e.2; exact Nat.lt_of_lt_of_eq (by omega : k < w8.heap.size) hsz.symm⟩
          case measure => simp [intOf]; omega
      · obtain rfl : na = i := by omega
        obtain ⟨wd, hwd⟩ : ∃ wd, wd = wr := ⟨_, rfl⟩
        subst hwd
        have hoqd := HOQ.out.kept hkr (fun k e e' => by omega)
        have hbzd := HBZ.out.kept hkr (fun e => by omega)
        have hb0d := B0C.out.kept hkr (fun e => by omega)
        have hb1d := B1C.out.kept hkr (fun e => by omega)
        have hb2d := B2C.out.kept hkr (fun e => by omega)
        have HGD : Hid (wc.heap.size ≤ wd.heap.size) := Lib.hid hkr.size
        have z1 := hb1d.cell 1
        have z2 := hb1d.cell 2
        simp only [List.getElem?_toArray, List.getElem?_cons_zero, List.getElem?_cons_succ] at z1 z2
        have HND := Lib.hid hnr
        have HOQ2 := Lib.hid hoqd
        have HBZD := Lib.hid hbzd
        have B0D := Lib.hid hb0d
        have B1D := Lib.hid hb1d
        have B2D := Lib.hid hb2d
        have HOPD := Lib.hid hox
        clear hnr hoqd hbzd hb0d hb1d hb2d hox
        clear hkr HOP HOQ
        go_wp2_with fail
        go_loopw [45] (fun t wr => ∃ i : Nat, i ≤ nb ∧ t = .int .i64 i ∧ Kept (fun k => k = gq) wd wr ∧ OSl procO wr (fun k => k = gq ∨ (wd.heap.size ≤ k ∧ k < wr.heap.size)) (some ⟨gq, 0, none⟩) nb nb (upTo zProc s.procs (fun j => seesB c j a) i)) (fun t _ => (nb - intOf t).toNat)
        case atStart => exact ⟨0, Nat.zero_le _, rfl, Kept.refl _ _, by rw [upTo_zero, ← HNB.out]; exact HOQ2.out.mono fun k e => .inl e⟩
        case round =>
          obtain ⟨i, hi, rfl, hkr, hox⟩ := hrel
          have hg0 := HG.out
          have hnr : New w wr := HND.out.step hkr fun k hk e => by have := HBE.out; have := HBW.out; omega
          by_cases hlt : i < nb
          · have hiL : i < s.procs.length := by have := HNB.out; omega
            obtain ⟨g, o, cs, rfl, hcl, hc⟩ := RB.out i hiL
            have hcl2 := (hc wr hnr).2
            obtain ⟨p0, p1, p2, rfl, -⟩ := hcl2
            have hcx := (hc wr hnr).1
            change ∀ j, j < 15 → wr.cell? ⟨g, o + i * 15 + j, none⟩ = _ at hcx
            have x0 := hcx 0 (by decide)
            have x1 := hcx 1 (by decide)
            have x2 := hcx 2 (by decide)
            have x3 := hcx 3 (by decide)
            have x4 := hcx 4 (by decide)
            have x5 := hcx 5 (by decide)
            have x6 := hcx 6 (by decide)
            have x7 := hcx 7 (by decide)
            have x8 := hcx 8 (by decide)
            have x9 := hcx 9 (by decide)
            have x10 := hcx 10 (by decide)
            have x11 := hcx 11 (by decide)
            have x12 := hcx 12 (by decide)
            have x13 := hcx 13 (by decide)
            have x14 := hcx 14 (by decide)
            simp only [Nat.add_zero, List.getElem?_cons_zero, List.getElem?_cons_succ] at x0 x1 x2 x3 x4 x5 x6 x7 x8 x9 x10 x11 x12 x13 x14
            have HCP := Lib.hid fun W (hW : New w W) => copyProc_any (hc W hW).2 (Nat.le_trans hB' hW.size) (HF.out.lanes _ (List.getElem_mem hiL)).1 (HF.out.lanes _ (List.getElem_mem hiL)).2
            have HYES := Lib.hid fun h => upTo_yes (z := zProc) (l := s.procs) (is := fun j => seesB c j a) hiL h
            have HNO := Lib.hid fun h => upTo_no (z := zProc) (l := s.procs) (is := fun j => seesB c j a) (i := i) h
            have hlen : i < (upTo zProc s.procs (fun j => seesB c j a) i).length := by rw [upTo_len]; exact hiL
            generalize s.procs[i] = x at *
            have hal : New wr (wr.alloc (.cells #[.int .i64 x.state, .int .i64 x.pc, .int .i64 x.r0, .int .i64 x.r1, .int .i64 x.r2, .int .i64 x.r3, .int .i64 x.r4, .int .i64 x.r5, .int .i64 x.r6, .int .i64 x.r7, .int .i64 x.cursor, .int .i64 x.timer, .bool x.fired, .int .i64 x.wake, .slice p0 p1 p2] 49)) := (Kept.refl _ _).alloc _
            have hbx := Blk.made wr 49 #[.int .i64 x.state, .int .i64 x.pc, .int .i64 x.r0, .int .i64 x.r1, .int .i64 x.r2, .int .i64 x.r3, .int .i64 x.r4, .int .i64 x.r5, .int .i64 x.r6, .int .i64 x.r7, .int .i64 x.cursor, .int .i64 x.timer, .bool x.fired, .int .i64 x.wake, .slice p0 p1 p2]
            have e2 : (0 : Int) ≤ (i : Int) := by omega
            have e3 : (i : Int) < (nb : Int) := by omega
            have HKR := Lib.hid hkr
            have HOX := Lib.hid hox
            have HNR := Lib.hid hnr
            have HLEN := Lib.hid hlen
            have HAL := Lib.hid hal
            have HBX := Lib.hid hbx
            clear hkr hox hnr hlen hal hbx
            clear hc hcl hcx hiL
            go_upto_region 11 with (fail)
            generalize wr.alloc (.cells #[.int .i64 x.state, .int .i64 x.pc, .int .i64 x.r0, .int .i64 x.r1, .int .i64 x.r2, .int .i64 x.r3, .int .i64 x.r4, .int .i64 x.r5, .int .i64 x.r6, .int .i64 x.r7, .int .i64 x.cursor, .int .i64 x.timer, .bool x.fired, .int .i64 x.wake, .slice p0 p1 p2] 49) = w6 at *
            clear x0 x1 x2 x3 x4 x5 x6 x7 x8 x9 x10 x11 x12 x13 x14
            have hn6 := HNR.out.trans HAL.out
            have hk6 : Kept (fun k => k = gq) wd w6 := HKR.out.trans (HAL.out.mono fun _ _ h => h.elim)
            have hb0 := B0D.out.kept hk6 (fun e => by omega)
            have z0 := hb0.cell 0
            have z1 := hb0.cell 1
            have z2 := hb0.cell 2
            have z3 := hb0.cell 3
            have z4 := hb0.cell 4
            have z5 := hb0.cell 5
            have z6 := hb0.cell 6
            simp only [List.getElem?_toArray, List.getElem?_cons_zero, List.getElem?_cons_succ] at z0 z1 z2 z3 z4 z5 z6
            have hpt := HSE.out w6 hn6 i
            have hbz6 := HBZD.out.kept hk6 (fun e => by omega)
            have HGX : Hid (wr.heap.size < w6.heap.size) := Lib.hid HBX.out.lt
            have HPX : Hid (gq < wr.heap.size) := Lib.hid (by have := HKR.out.size; have := HGD.out; omega)
            generalize hbxe : wr.heap.size = bx at *
            have HBXE : Hid (wr.heap.size = bx) := Lib.hid hbxe
            have HN6 := Lib.hid hn6
            have HK6 := Lib.hid hk6
            have HBZ6 := Lib.hid hbz6
            clear hn6 hk6 hbz6
            clear hbxe hb0
            cases hp : seesB c i a with
            | false =>
              rw [hp] at hpt
              have hl2 := HNO.out hp
              have HPT := Lib.hid hpt
              have HL2 := Lib.hid hl2
              clear hpt hl2
              clear hp
              go_wp2_with fail
              refine HPT.out.mono ?_
              rintro e w7 ⟨rfl, hm7⟩
              have HM7 := Lib.hid hm7
              clear hm7
              go_wp2_with fail
              go_roundw
              case rel =>
                refine ⟨i + 1, by omega, by go_num, HK6.out.trans (HM7.out.mono fun _ _ h => h.elim), ?_⟩
                rw [HL2.out]
                refine (HOX.out.new (HAL.out.trans HM7.out)).mono fun k e => ?_
                have h1 := HAL.out.size; have h2 := HM7.out.size; have h3 := HBXE.out
                rcases e with e | e
                · exact .inl e
                · exact .inr ⟨e.1, by omega⟩
              case measure => simp [intOf]; omega
            | true =>
              rw [hp] at hpt
              have hl2 := HYES.out hp
              have HPT := Lib.hid hpt
              have HL2 := Lib.hid hl2
              clear hpt hl2
              clear hp
              go_wp2_with fail
              refine HPT.out.mono ?_
              rintro e w7 ⟨rfl, hm7⟩
              have HS : Hid (∀ W, New w7 W → W.cell? ⟨gz, 2, none⟩ = some (.slice (some ⟨gq, 0, none⟩) nb nb) ∧ W.cell? ⟨bx, 0, none⟩ = some (.int .i64 x.state) ∧ W.cell? ⟨bx, 1, none⟩ = some (.int .i64 x.pc) ∧ W.cell? ⟨bx, 2, none⟩ = some (.int .i64 x.r0) ∧ W.cell? ⟨bx, 3, none⟩ = some (.int .i64 x.r1) ∧ W.cell? ⟨bx, 4, none⟩ = some (.int .i64 x.r2) ∧ W.cell? ⟨bx, 5, none⟩ = some (.int .i64 x.r3) ∧ W.cell? ⟨bx, 6, none⟩ = some (.int .i64 x.r4) ∧ W.cell? ⟨bx, 7, none⟩ = some (.int .i64 x.r5) ∧ W.cell? ⟨bx, 8, none⟩ = some (.int .i64 x.r6) ∧ W.cell? ⟨bx, 9, none⟩ = some (.int .i64 x.r7) ∧ W.cell? ⟨bx, 10, none⟩ = some (.int .i64 x.cursor) ∧ W.cell? ⟨bx, 11, none⟩ = some (.int .i64 x.timer) ∧ W.cell? ⟨bx, 12, none⟩ = some (.bool x.fired) ∧ W.cell? ⟨bx, 13, none⟩ = some (.int .i64 x.wake) ∧ W.cell? ⟨bx, 14, none⟩ = some (.slice p0 p1 p2)) := Lib.hid fun W hW => by
                have h1 := HBZ6.out.kept (hm7.trans hW) id
                have h2 := HBX.out.kept (hm7.trans hW) id
                exact ⟨h1.cell 2, h2.cell 0, h2.cell 1, h2.cell 2, h2.cell 3, h2.cell 4, h2.cell 5, h2.cell 6, h2.cell 7, h2.cell 8, h2.cell 9, h2.cell 10, h2.cell 11, h2.cell 12, h2.cell 13, h2.cell 14⟩
              have HROW : Hid (∀ W, New w7 W → ∀ j, j < 15 → ∃ v, W.cell? ⟨gq, i * 15 + j, none⟩ = some v ∧ W.frozen? ⟨gq, i * 15 + j, none⟩ = false) := Lib.hid fun W hW j hj => by
                obtain ⟨g', o', cs', Fi, e2, hF, hFi, hown, hcc⟩ := (HOX.out.new ((HAL.out.trans hm7).trans hW)).at_ i HLEN.out
                injection e2 with e2
                injection e2 with eg eo
                subst eg; subst eo
                have h1 := hcc j hj
                have h2 := procO.length hown
                change _ = 15 at h2
                rw [show 0 + i * procO.size + j = i * 15 + j from by show 0 + i * 15 + j = _; omega] at h1
                exact ⟨_, h1.1.trans (List.getElem?_eq_getElem (by omega)), h1.2⟩
              have HM7 := Lib.hid hm7
              clear hm7
              go_wp2_with fail
              obtain ⟨z0, y0, y1, y2, y3, y4, y5, y6, y7, y8, y9, y10, y11, y12, y13, y14⟩ := HS.out w7 (Kept.refl _ _)
              have n1 : ¬ gq = gz := by omega
              have n2 : ¬ gq = bx := by have := HPX.out; omega
              go_region_held3 (fun W => W.cell? ⟨gz, 2, none⟩ = some (.slice (some ⟨gq, 0, none⟩) nb nb) ∧ W.cell? ⟨bx, 0, none⟩ = some (.int .i64 x.state) ∧ W.cell? ⟨bx, 1, none⟩ = some (.int .i64 x.pc) ∧ W.cell? ⟨bx, 2, none⟩ = some (.int .i64 x.r0) ∧ W.cell? ⟨bx, 3, none⟩ = some (.int .i64 x.r1) ∧ W.cell? ⟨bx, 4, none⟩ = some (.int .i64 x.r2) ∧ W.cell? ⟨bx, 5, none⟩ = some (.int .i64 x.r3) ∧ W.cell? ⟨bx, 6, none⟩ = some (.int .i64 x.r4) ∧ W.cell? ⟨bx, 7, none⟩ = some (.int .i64 x.r5) ∧ W.cell? ⟨bx, 8, none⟩ = some (.int .i64 x.r6) ∧ W.cell? ⟨bx, 9, none⟩ = some (.int .i64 x.r7) ∧ W.cell? ⟨bx, 10, none⟩ = some (.int .i64 x.cursor) ∧ W.cell? ⟨bx, 11, none⟩ = some (.int .i64 x.timer) ∧ W.cell? ⟨bx, 12, none⟩ = some (.bool x.fired) ∧ W.cell? ⟨bx, 13, none⟩ = some (.int .i64 x.wake) ∧ W.cell? ⟨bx, 14, none⟩ = some (.slice p0 p1 p2))
                (first | (refine ⟨?_, ?_, ?_, ?_, ?_, ?_, ?_, ?_, ?_, ?_, ?_, ?_, ?_, ?_, ?_, ?_⟩ <;> with_reducible assumption) | (refine ⟨?_, ?_, ?_, ?_, ?_, ?_, ?_, ?_, ?_, ?_, ?_, ?_, ?_, ?_, ?_, ?_⟩ <;> (repeat (rw [World.cell?_setCell_other _ _ _ _ (by intro e; injection e with e1; omega)])) <;> with_reducible assumption) | go_keep)
                (first | (go_at_call 19; refine (HCP.out _ (by first | exact HN6.out.trans HM7.out | exact (HN6.out.trans HM7.out).drew)).mono ?_; rintro e w8 ⟨cs, rfl, hcs, hm8⟩; obtain ⟨d0, d1, d2, rfl, hown⟩ := hcs; have hM : New w7 w8 := (by first | exact hm8 | exact ((Kept.refl _ _).drew).trans hm8); obtain ⟨z0, y0, y1, y2, y3, y4, y5, y6, y7, y8, y9, y10, y11, y12, y13, y14⟩ := HS.out w8 hM; obtain ⟨v0, c0, f0⟩ := HROW.out w8 hM 0 (by decide); obtain ⟨v1, c1, f1⟩ := HROW.out w8 hM 1 (by decide); obtain ⟨v2, c2, f2⟩ := HROW.out w8 hM 2 (by decide); obtain ⟨v3, c3, f3⟩ := HROW.out w8 hM 3 (by decide); obtain ⟨v4, c4, f4⟩ := HROW.out w8 hM 4 (by decide); obtain ⟨v5, c5, f5⟩ := HROW.out w8 hM 5 (by decide); obtain ⟨v6, c6, f6⟩ := HROW.out w8 hM 6 (by decide); obtain ⟨v7, c7, f7⟩ := HROW.out w8 hM 7 (by decide); obtain ⟨v8, c8, f8⟩ := HROW.out w8 hM 8 (by decide); obtain ⟨v9, c9, f9⟩ := HROW.out w8 hM 9 (by decide); obtain ⟨v10, c10, f10⟩ := HROW.out w8 hM 10 (by decide); obtain ⟨v11, c11, f11⟩ := HROW.out w8 hM 11 (by decide); obtain ⟨v12, c12, f12⟩ := HROW.out w8 hM 12 (by decide); obtain ⟨v13, c13, f13⟩ := HROW.out w8 hM 13 (by decide); obtain ⟨v14, c14, f14⟩ := HROW.out w8 hM 14 (by decide); simp only [Nat.add_zero] at c0 f0; have HO8 := Lib.hid hown; have HM8 := Lib.hid hM; clear hown hm8 hM; simp only [procC]))
              go_wp2_with fail
              go_roundw
              case rel =>
                have hm78 := HM7.out.trans HM8.out
                have hsz := size_setCells' gq [.int .i64 x.state, .int .i64 x.pc, .int .i64 x.r0, .int .i64 x.r1, .int .i64 x.r2, .int .i64 x.r3, .int .i64 x.r4, .int .i64 x.r5, .int .i64 x.r6, .int .i64 x.r7, .int .i64 x.cursor, .int .i64 x.timer, .bool x.fired, .int .i64 x.wake, .slice d0 d1 d2] (i * 15) w8
                refine ⟨i + 1, by omega, by go_num, Kept.setCells (G := fun k => k = gq) [.int .i64 x.state, .int .i64 x.pc, .int .i64 x.r0, .int .i64 x.r1, .int .i64 x.r2, .int .i64 x.r3, .int .i64 x.r4, .int .i64 x.r5, .int .i64 x.r6, .int .i64 x.r7, .int .i64 x.cursor, .int .i64 x.timer, .bool x.fired, .int .i64 x.wake, .slice d0 d1 d2] (i * 15) w8 (HK6.out.trans (hm78.mono fun _ _ h => h.elim)) (.inr rfl), ?_⟩
                have h1 := HAL.out.size
                have h2 := HM7.out.size
                have h3 := HM8.out.size
                have h4 := HBXE.out
                have h5 := HKR.out.size
                have h6 := (HOX.out.new (HAL.out.trans hm78)).setCells (x := x) (cs := [.int .i64 x.state, .int .i64 x.pc, .int .i64 x.r0, .int .i64 x.r1, .int .i64 x.r2, .int .i64 x.r3, .int .i64 x.r4, .int .i64 x.r5, .int .i64 x.r6, .int .i64 x.r7, .int .i64 x.cursor, .int .i64 x.timer, .bool x.fired, .int .i64 x.wake, .slice d0 d1 d2]) (Fx := fun k => w7.heap.size ≤ k ∧ k < w8.heap.size) HLEN.out rfl ⟨d0, d1, d2, rfl, HO8.out⟩ (fun k e e' => by
                  rcases e' with e' | e'
                  · have := HG.out; have := HGD.out; omega
                  · omega)
                rw [HL2.out]
                rw [show 0 + i * procO.size = i * 15 from by show 0 + i * 15 = _; omega] at h6
                refine h6.mono fun k e => ?_
                rcases e with (e | e) | e
                · exact .inl e
                · exact .inr ⟨e.1, by have e2 := e.2; exact Nat.lt_of_lt_of_eq (by omega : k < w8.heap.size) hsz.symm⟩
                · exact .inr ⟨by have e2 := e.1; omega, by have e2 := e.2; exact Nat.lt_of_lt_of_eq (by omega : k < w8.heap.size) hsz.symm⟩
              case measure => simp [intOf]; omega
          · obtain rfl : nb = i := by omega
            have h7 := HOPD.out.kept hkr (fun k e e' => by have := HGD.out; rcases e with e | e <;> omega)
            have hbzf := HBZD.out.kept hkr (fun e => by omega)
            have hb2f := B2D.out.kept hkr (fun e => by omega)
            have z0 := hbzf.cell 0
            have z1 := hbzf.cell 1
            have z2 := hbzf.cell 2
            have y0 := hb2f.cell 0
            have y1 := hb2f.cell 1
            have y2 := hb2f.cell 2
            have q0 := hb2f.free 0
            have q1 := hb2f.free 1
            have q2 := hb2f.free 2
            simp only [List.getElem?_toArray, List.getElem?_cons_zero, List.getElem?_cons_succ] at z0 z1 z2 y0 y1 y2
            have HKF := Lib.hid hkr
            have HNR := Lib.hid hnr
            have H7 := Lib.hid h7
            have HB2F := Lib.hid hb2f
            have HOX := Lib.hid hox
            clear hnr h7 hb2f hox
            clear hbzf hkr
            go_wp2_with fail
            have hbf : Blk (((wr.setCell ⟨b + 2, 0, none⟩ (.int .i64 s.tick)).setCell ⟨b + 2, 1, none⟩ (.slice (some ⟨gp, 0, none⟩) na na)).setCell ⟨b + 2, 2, none⟩ (.slice (some ⟨gq, 0, none⟩) nb nb)) (b + 2) 30 #[.int .i64 s.tick, .slice (some ⟨gp, 0, none⟩) na na, .slice (some ⟨gq, 0, none⟩) nb nb] := HB2F.out.setAll [.int .i64 s.tick, .slice (some ⟨gp, 0, none⟩) na na, .slice (some ⟨gq, 0, none⟩) nb nb] rfl
            have hkf : Kept (fun k => k = b + 2) wr (((wr.setCell ⟨b + 2, 0, none⟩ (.int .i64 s.tick)).setCell ⟨b + 2, 1, none⟩ (.slice (some ⟨gp, 0, none⟩) na na)).setCell ⟨b + 2, 2, none⟩ (.slice (some ⟨gq, 0, none⟩) nb nb)) := ((Kept.set1 wr (b + 2) 0 _).trans (Kept.set1 _ (b + 2) 1 _)).trans (Kept.set1 _ (b + 2) 2 _)
            generalize ((wr.setCell ⟨b + 2, 0, none⟩ (.int .i64 s.tick)).setCell ⟨b + 2, 1, none⟩ (.slice (some ⟨gp, 0, none⟩) na na)).setCell ⟨b + 2, 2, none⟩ (.slice (some ⟨gq, 0, none⟩) nb nb) = wF at *
            have y0 := hbf.cell 0
            have y1 := hbf.cell 1
            have y2 := hbf.cell 2
            simp only [List.getElem?_toArray, List.getElem?_cons_zero, List.getElem?_cons_succ] at y0 y1 y2
            have k1 := HG.out
            have k2 := HGD.out
            have k3 := HKF.out.size
            have k4 := hkf.size
            have k5 := HBE.out
            have k6 := HBW.out
            have k7 := HNC.out.size
            refine bodyPost_ret (v := .agg #[.int .i64 s.tick, .slice (some ⟨gp, 0, none⟩) na na, .slice (some ⟨gq, 0, none⟩) nb nb]) (by simp [results, Try.results9, go_sem, y0, y1, y2]) rfl ⟨[.int .i64 s.tick, .slice (some ⟨gp, 0, none⟩) na na, .slice (some ⟨gq, 0, none⟩) nb nb], rfl,
              ⟨_, na, na, _, nb, nb, fun k => k = gp ∨ (wc.heap.size ≤ k ∧ k < wd.heap.size), fun k => k = gq ∨ (wd.heap.size ≤ k ∧ k < wr.heap.size), rfl, ?_, ?_, fun k e => ⟨?_, ?_⟩, fun k e => ?_⟩, ?_⟩
            · show OSl partO wF _ _ na na (upTo zPart s.parts (fun j => partB c.labels j a) s.parts.length)
              rw [← HNA.out]
              exact H7.out.kept hkf fun k e e' => by rcases e with e | e <;> omega
            · show OSl procO wF _ _ nb nb (upTo zProc s.procs (fun j => seesB c j a) s.procs.length)
              rw [← HNB.out]
              exact HOX.out.kept hkf fun k e e' => by rcases e with e | e <;> omega
            · rcases e with e | e <;> constructor <;> omega
            · rcases e with e | e <;> omega
            · rcases e with e | e <;> constructor <;> omega
            · exact HNR.out.step hkf fun k hk e => by omega

end Go.Proofs.Ytgdmajockejpgaa.View
