/- The walk of firebreaklaw10's step (layer 10). -/
import Derived.Test.YtnfaafdgfafcjaaPostPe
namespace Go.Proofs.Ytnfaafdgfafcjaa.Lane
open Go.RowKit Go.Fb
set_option linter.unusedVariables false
section
variable {w wb : World} {b c : Nat} {Ls : List Lane} {cur room : Int} {M : Nat}
set_option maxRecDepth 100000 in
set_option maxHeartbeats 8000000 in
theorem pstep_any (h : BothP w wb b c Ls cur Ls cur) (ho : OkP room M Ls cur) (hM : M ≤ 8000000000000) (k l p v : Int) : Calls Try.prog 17 #[.pointer (some ⟨b, 0, none⟩), .pointer (some ⟨c, 0, none⟩), .agg #[.int .i64 k, .int .i64 l, .int .i64 p, .int .i64 v]] wb fun e w' => e = .returned (.bool true) ∧ BothP w w' b c (stepP Ls cur k l p v).1 (stepP Ls cur k l p v).2 (stepP Ls cur k l p v).1 (stepP Ls cur k l p v).2 := by
  have hv := fun L hL => (ho.ok L hL).1.vals
  have hfw := fun L hL => (ho.ok L hL).1.few
  have htk := fun L hL => (ho.ok L hL).1.taken
  have hdr := fun L hL => (ho.ok L hL).1.dropped
  have k1 : New wb (wb.alloc (.cells #[.int .i64 k, .int .i64 l, .int .i64 p, .int .i64 v] 50)) := (Kept.refl _ _).alloc _
  have hb1 := Blk.made wb 50 #[.int .i64 k, .int .i64 l, .int .i64 p, .int .i64 v]
  obtain ⟨X, hbx, hX⟩ : ∃ X : Nat → Prop, BothPX X w (wb.alloc (.cells #[.int .i64 k, .int .i64 l, .int .i64 p, .int .i64 v] 50)) b c Ls cur Ls cur ∧ X wb.heap.size := ⟨_, h.add k1, .inr ⟨Nat.le_refl _, hb1.lt⟩⟩
  have hXF : ∀ j : Nat, (fun _ => False) j → X j := fun _ h => h.elim
  by_cases e1 : k = 1
  · subst e1
    have E := Lib.hid (show stepP Ls cur 1 l p v = ((putP Ls l v).1, cur) by simp [stepP])
    have HL := Lib.hid (fun W (hb : BothPX X w W b c Ls cur Ls cur) => hb.left (fun F hF => pput_any hF l v (fun L hL => by have := hv L hL; omega)))
    have HR := Lib.hid (fun W L1 c1 (hb : BothPX X w W b c L1 c1 Ls cur) => hb.right (fun G hG => rpput_any hG l v (fun L hL => by have := hv L hL; omega)))
    generalize (putP Ls l v).1 = L' at *
    generalize (putP Ls l v).2 = er at *
    clear hv hfw htk hdr
    have K1 := Lib.hid k1
    have HB1 := Lib.hid hb1
    have HBX := Lib.hid hbx
    have HX := Lib.hid hX
    have HXF := Lib.hid hXF
    clear k1 hb1 hbx hX hXF
    clear h ho
    go_enter Try.func17, Try.ntmps17
    go_upto_region 3 with (fail)
    generalize wb.alloc (.cells #[.int .i64 1, .int .i64 l, .int .i64 p, .int .i64 v] 50) = w1 at *
    have HZ := Lib.hid (fun W (hW : Kept (fun k => ¬ X k) w1 W) => (show W.cell? ⟨wb.heap.size, 1, none⟩ = some (.int .i64 l) ∧ W.cell? ⟨wb.heap.size, 2, none⟩ = some (.int .i64 p) ∧ W.cell? ⟨wb.heap.size, 3, none⟩ = some (.int .i64 v) from ⟨(HB1.out.kept hW (fun h => h HX.out)).cell 1, (HB1.out.kept hW (fun h => h HX.out)).cell 2, (HB1.out.kept hW (fun h => h HX.out)).cell 3⟩))
    obtain ⟨z1, z2, z3⟩ := HZ.out w1 (Kept.refl _ _)
    go_wp2_with fail
    refine (HL.out _ HBX.out).mono ?_
    rintro e w2 ⟨rfl, hw2, hk2⟩
    obtain ⟨z1, z2, z3⟩ := HZ.out w2 hk2
    have HW2 := Lib.hid hw2
    clear hw2
    clear hk2
    go_wp2_with fail
    refine (HR.out _ _ _ HW2.out).mono ?_
    rintro e w3 ⟨rfl, hw3, hk3⟩
    have HW3 := Lib.hid hw3
    clear hw3
    clear hk3
    go_wp2_with fail
    go_ret
    rw [E.out]
    exact ⟨by simp [Array.getD], HW3.out.less HXF.out⟩
  by_cases e2 : k = 2
  · subst e2
    have E := Lib.hid (show stepP Ls cur 2 l p v = (dropP Ls l, cur) by simp [stepP])
    have HL := Lib.hid (fun W (hb : BothPX X w W b c Ls cur Ls cur) => hb.left (fun F hF => pdrop_any hF l hdr))
    have HR := Lib.hid (fun W L1 c1 (hb : BothPX X w W b c L1 c1 Ls cur) => hb.right (fun G hG => rpdrop_any hG l hdr))
    generalize dropP Ls l = L' at *
    clear hv hfw htk hdr
    have K1 := Lib.hid k1
    have HB1 := Lib.hid hb1
    have HBX := Lib.hid hbx
    have HX := Lib.hid hX
    have HXF := Lib.hid hXF
    clear k1 hb1 hbx hX hXF
    clear h ho
    go_enter Try.func17, Try.ntmps17
    go_upto_region 6 with (fail)
    generalize wb.alloc (.cells #[.int .i64 2, .int .i64 l, .int .i64 p, .int .i64 v] 50) = w1 at *
    have HZ := Lib.hid (fun W (hW : Kept (fun k => ¬ X k) w1 W) => (show W.cell? ⟨wb.heap.size, 1, none⟩ = some (.int .i64 l) ∧ W.cell? ⟨wb.heap.size, 2, none⟩ = some (.int .i64 p) ∧ W.cell? ⟨wb.heap.size, 3, none⟩ = some (.int .i64 v) from ⟨(HB1.out.kept hW (fun h => h HX.out)).cell 1, (HB1.out.kept hW (fun h => h HX.out)).cell 2, (HB1.out.kept hW (fun h => h HX.out)).cell 3⟩))
    obtain ⟨z1, z2, z3⟩ := HZ.out w1 (Kept.refl _ _)
    go_wp2_with fail
    refine (HL.out _ HBX.out).mono ?_
    rintro e w2 ⟨rfl, hw2, hk2⟩
    obtain ⟨z1, z2, z3⟩ := HZ.out w2 hk2
    have HW2 := Lib.hid hw2
    clear hw2
    clear hk2
    go_wp2_with fail
    refine (HR.out _ _ _ HW2.out).mono ?_
    rintro e w3 ⟨rfl, hw3, hk3⟩
    have HW3 := Lib.hid hw3
    clear hw3
    clear hk3
    go_wp2_with fail
    go_ret
    rw [E.out]
    exact ⟨by simp [Array.getD], HW3.out.less HXF.out⟩
  by_cases e3 : k = 3
  · subst e3
    obtain ⟨c0, rfl⟩ : ∃ c0 : Nat, cur = c0 := ⟨cur.toNat, by have := ho.cur; omega⟩
    have hcl : c0 < Ls.length := by have := ho.cur; omega
    have hl9 := ho.len.2
    have E := Lib.hid (show stepP Ls c0 3 l p v = ((takeP Ls c0).1, (takeP Ls c0).2.1) by simp [stepP])
    have HL := Lib.hid (fun W (hb : BothPX X w W b c Ls c0 Ls c0) => hb.left (fun F hF => ptake_any hF c0 rfl hcl hl9 (fun L hL => by have := hv L hL; omega) htk))
    have HRT := Lib.hid (fun W G (hG : PAtR W c G Ls c0) => rptake_any hG c0 rfl hcl hl9 (fun L hL => by have := hv L hL; omega) (fun L hL => by have := hfw L hL; omega) htk)
    obtain ⟨tv, ti, tq, tl, te, hte⟩ := takeP_form Ls c0
    rw [hte] at HL HRT
    generalize (takeP Ls c0).1 = L' at *
    generalize (takeP Ls c0).2.1 = cr at *
    simp only [tookN] at HL HRT
    have K1 := Lib.hid k1
    have HB1 := Lib.hid hb1
    have HBX := Lib.hid hbx
    have HX := Lib.hid hX
    have HXF := Lib.hid hXF
    clear k1 hb1 hbx hX hXF
    clear h ho hte hv hfw htk hdr
    go_enter Try.func17, Try.ntmps17
    go_upto_region 10 with (fail)
    generalize wb.alloc (.cells #[.int .i64 3, .int .i64 l, .int .i64 p, .int .i64 v] 50) = w1 at *
    go_wp2_with fail
    refine (HL.out _ HBX.out).mono ?_
    rintro e w2 ⟨rfl, hw2, hk2⟩
    have k2 : New w2 (w2.alloc (.cells #[.int .i64 tq.1, .int .i64 tq.2] 36)) := (Kept.refl _ _).alloc _
    have hb2 := Blk.made w2 36 #[.int .i64 tq.1, .int .i64 tq.2]
    obtain ⟨X2, hbx2, hX2⟩ : ∃ X2 : Nat → Prop, BothPX X2 w (w2.alloc (.cells #[.int .i64 tq.1, .int .i64 tq.2] 36)) b c L' cr Ls c0 ∧ X2 w2.heap.size := ⟨_, hw2.add k2, .inr ⟨Nat.le_refl _, hb2.lt⟩⟩
    have hXF2 : ∀ j : Nat, (fun _ => False) j → X2 j := fun _ h => h.elim
    have HR2 := Lib.hid (fun W L1 c1 (hb : BothPX X2 w W b c L1 c1 Ls c0) => hb.right (fun G hG => HRT.out W G hG))
    have K2 := Lib.hid k2
    have HB2 := Lib.hid hb2
    have HBX2 := Lib.hid hbx2
    have HX2 := Lib.hid hX2
    have HXF2 := Lib.hid hXF2
    clear k2 hb2 hbx2 hX2 hXF2
    clear hw2 hk2
    go_upto_region 11 with (fail)
    generalize w2.alloc (.cells #[.int .i64 tq.1, .int .i64 tq.2] 36) = w3 at *
    go_wp2_with fail
    refine (HR2.out _ _ _ HBX2.out).mono ?_
    rintro e w4 ⟨rfl, hw4, hk4⟩
    have k5 : New w4 (w4.alloc (.cells #[.int .i64 tq.1, .int .i64 tq.2] 36)) := (Kept.refl _ _).alloc _
    have hb5 := Blk.made w4 36 #[.int .i64 tq.1, .int .i64 tq.2]
    have hb4 := (HB2.out.kept hk4 (fun h => h HX2.out)).kept k5 id
    have hw5 := (hw4.new k5).less HXF2.out
    have HB5 := Lib.hid hb5
    have HB4 := Lib.hid hb4
    have HW5 := Lib.hid hw5
    clear hb5 hb4 hw5
    clear hw4 hk4 k5
    go_upto_region 12 with (fail)
    generalize w4.alloc (.cells #[.int .i64 tq.1, .int .i64 tq.2] 36) = w5 at *
    have x0 := HB4.out.cell 0
    have x1 := HB4.out.cell 1
    have y0 := HB5.out.cell 0
    have y1 := HB5.out.cell 1
    simp only [List.getElem?_toArray, List.getElem?_cons_zero, List.getElem?_cons_succ] at x0 x1 y0 y1
    go_wp2_with fail
    go_ret
    rw [E.out]
    exact ⟨by simp [Array.getD], HW5.out⟩
  by_cases e4 : k = 4
  · subst e4
    have E := Lib.hid (show stepP Ls cur 4 l p v = ((waitP Ls l p v).1, cur) by simp [stepP])
    have HL := Lib.hid (fun W (hb : BothPX X w W b c Ls cur Ls cur) => hb.left (fun F hF => pwait_any hF l p v (fun L hL => by have h1 := hv L hL; have h2 := hfw L hL; exact ⟨by omega, by omega⟩)))
    have HR := Lib.hid (fun W L1 c1 (hb : BothPX X w W b c L1 c1 Ls cur) => hb.right (fun G hG => rpwait_any hG l p v (fun L hL => by have := hfw L hL; omega) (fun L hL h0 => by rcases (ho.ok L hL).1.may.2.1 with h1 | h1 <;> first | exact absurd h1 h0 | exact h1)))
    generalize (waitP Ls l p v).1 = L' at *
    generalize (waitP Ls l p v).2 = er at *
    clear hv hfw htk hdr
    have K1 := Lib.hid k1
    have HB1 := Lib.hid hb1
    have HBX := Lib.hid hbx
    have HX := Lib.hid hX
    have HXF := Lib.hid hXF
    clear k1 hb1 hbx hX hXF
    clear h ho
    go_enter Try.func17, Try.ntmps17
    go_upto_region 14 with (fail)
    generalize wb.alloc (.cells #[.int .i64 4, .int .i64 l, .int .i64 p, .int .i64 v] 50) = w1 at *
    have HZ := Lib.hid (fun W (hW : Kept (fun k => ¬ X k) w1 W) => (show W.cell? ⟨wb.heap.size, 1, none⟩ = some (.int .i64 l) ∧ W.cell? ⟨wb.heap.size, 2, none⟩ = some (.int .i64 p) ∧ W.cell? ⟨wb.heap.size, 3, none⟩ = some (.int .i64 v) from ⟨(HB1.out.kept hW (fun h => h HX.out)).cell 1, (HB1.out.kept hW (fun h => h HX.out)).cell 2, (HB1.out.kept hW (fun h => h HX.out)).cell 3⟩))
    obtain ⟨z1, z2, z3⟩ := HZ.out w1 (Kept.refl _ _)
    go_wp2_with fail
    refine (HL.out _ HBX.out).mono ?_
    rintro e w2 ⟨rfl, hw2, hk2⟩
    obtain ⟨z1, z2, z3⟩ := HZ.out w2 hk2
    have HW2 := Lib.hid hw2
    clear hw2
    clear hk2
    go_wp2_with fail
    refine (HR.out _ _ _ HW2.out).mono ?_
    rintro e w3 ⟨rfl, hw3, hk3⟩
    have HW3 := Lib.hid hw3
    clear hw3
    clear hk3
    go_wp2_with fail
    go_ret
    rw [E.out]
    exact ⟨by simp [Array.getD], HW3.out.less HXF.out⟩
  by_cases e5 : k = 5
  · subst e5
    have E := Lib.hid (show stepP Ls cur 5 l p v = ((leaveP Ls p).1, cur) by simp [stepP])
    have HL := Lib.hid (fun W (hb : BothPX X w W b c Ls cur Ls cur) => hb.left (fun F hF => pleave_any hF p))
    have HR := Lib.hid (fun W L1 c1 (hb : BothPX X w W b c L1 c1 Ls cur) => hb.right (fun G hG => rpleave_any hG p (fun L hL => by have := hfw L hL; omega)))
    generalize (leaveP Ls p).1 = L' at *
    generalize (leaveP Ls p).2 = er at *
    clear hv hfw htk hdr
    have K1 := Lib.hid k1
    have HB1 := Lib.hid hb1
    have HBX := Lib.hid hbx
    have HX := Lib.hid hX
    have HXF := Lib.hid hXF
    clear k1 hb1 hbx hX hXF
    clear h ho
    go_enter Try.func17, Try.ntmps17
    go_upto_region 17 with (fail)
    generalize wb.alloc (.cells #[.int .i64 5, .int .i64 l, .int .i64 p, .int .i64 v] 50) = w1 at *
    have HZ := Lib.hid (fun W (hW : Kept (fun k => ¬ X k) w1 W) => (show W.cell? ⟨wb.heap.size, 1, none⟩ = some (.int .i64 l) ∧ W.cell? ⟨wb.heap.size, 2, none⟩ = some (.int .i64 p) ∧ W.cell? ⟨wb.heap.size, 3, none⟩ = some (.int .i64 v) from ⟨(HB1.out.kept hW (fun h => h HX.out)).cell 1, (HB1.out.kept hW (fun h => h HX.out)).cell 2, (HB1.out.kept hW (fun h => h HX.out)).cell 3⟩))
    obtain ⟨z1, z2, z3⟩ := HZ.out w1 (Kept.refl _ _)
    go_wp2_with fail
    refine (HL.out _ HBX.out).mono ?_
    rintro e w2 ⟨rfl, hw2, hk2⟩
    obtain ⟨z1, z2, z3⟩ := HZ.out w2 hk2
    have HW2 := Lib.hid hw2
    clear hw2
    clear hk2
    go_wp2_with fail
    refine (HR.out _ _ _ HW2.out).mono ?_
    rintro e w3 ⟨rfl, hw3, hk3⟩
    have HW3 := Lib.hid hw3
    clear hw3
    clear hk3
    go_wp2_with fail
    go_ret
    rw [E.out]
    exact ⟨by simp [Array.getD], HW3.out.less HXF.out⟩
  by_cases e6 : k = 6
  · subst e6
    have E := Lib.hid (show stepP Ls cur 6 l p v = ((endP Ls).1, cur) by simp [stepP])
    obtain ⟨F, G, hF, hG, hf, hg, hd, hn, -, -⟩ := h.new k1
    have hsum : (Ls.flatMap (·.waits)).length ≤ 8000000000000 := by have := ho.sum; unfold waitsAll at this; omega
    have hend := pend_any hF hsum
    have HREND := Lib.hid (fun W (hW : Kept F (wb.alloc (.cells #[.int .i64 6, .int .i64 l, .int .i64 p, .int .i64 v] 50)) W) => rpend_any (hG.kept hW (fun k e e' => hd k e' e)) hsum)
    have hfl := hF.lt
    have hgl := hG.lt
    have HEB := Lib.hid (fun w2 w3 F' G' q h1 h2 h3 h4 h5 h6 h7 h8 => ended_both (w := w) (w1 := wb.alloc (.cells #[.int .i64 6, .int .i64 l, .int .i64 p, .int .i64 v] 50)) (w2 := w2) (w3 := w3) (b := b) (c := c) (F := F) (G := G) (F' := F') (G' := G') (q := q) (Ls := Ls) (cur := cur) hn hf hg hd hfl hgl h1 h2 h3 h4 h5 h6 h7 h8)
    unfold EndedP at hend HREND
    have hws : ((endP Ls).2).length ≤ 8000000000000 := hsum
    generalize (endP Ls).2 = ws at *
    have HGL := Lib.hid hgl
    have K1 := Lib.hid k1
    have HB1 := Lib.hid hb1
    have HBX := Lib.hid hbx
    have HX := Lib.hid hX
    have HXF := Lib.hid hXF
    have HEND := Lib.hid hend
    have HFW := Lib.hid hf
    have HGW := Lib.hid hg
    have HDD := Lib.hid hd
    clear k1 hb1 hbx hX hXF hend hf hg hd
    clear h ho hv hfw htk hdr hF hG hn hfl hgl hsum
    go_enter Try.func17, Try.ntmps17
    go_upto_region 20 with (fail)
    generalize wb.alloc (.cells #[.int .i64 6, .int .i64 l, .int .i64 p, .int .i64 v] 50) = w1 at *
    go_wp2_with fail
    refine HEND.out.mono ?_
    rintro e w2 ⟨q, D, m, d, F', hm, rfl, hrow, hA, hFF, hq, hk1⟩
    have hrend := HREND.out w2 hk1
    have HROW := Lib.hid hrow
    have HA := Lib.hid hA
    have HFF := Lib.hid hFF
    have HQ := Lib.hid hq
    have HK1 := Lib.hid hk1
    have HRE2 := Lib.hid hrend
    have HM := Lib.hid hm
    clear hrow hA hFF hq hk1 hrend hm
    go_wp2_with fail
    refine HRE2.out.mono ?_
    rintro e w3 ⟨q2, D2, m2, d2, G', hm2, rfl, hrow2, hB, hGG, hq2, hk2⟩
    obtain rfl : m2 = m := by rw [hm2, HM.out]
    have hql := HROW.out.lt (by decide)
    have hrow1 := HROW.out.of_kept (by decide) hk2 (fun k e e' => by have := (HQ.out k e).1; have := HGL.out k e'; omega)
    have HSR : Hid (∀ W, Kept (fun k => q = some k) w3 W → SliceOf repW W W.heap.size D2 m2 d2 ws) := Lib.hid fun W hW => waits_read (hrow2.of_kept (by decide) hW (fun k e e' => by have := hql k e'; have := (hq2 k e).1; omega)) hm2.symm
    have HBOTH := Lib.hid (fun W hW => HEB.out w2 w3 F' G' q HA.out HFF.out HQ.out hql HK1.out hB hGG hk2 W hW)
    have hb1 := hrow1.bound
    have hb2 := hrow2.bound
    have hr0 : Row w3 2 q D m2 d ((marks 0 ws).flatMap cellsW) := hrow1
    have HNW := Lib.hid hm2
    have HR0 := Lib.hid hr0
    clear hr0
    clear hrow1 hrow2 hB hGG hq2 hk2 hql hm2 HROW HA HFF HQ HK1 HEB HM
    go_wp2_with fail
    go_loopw [22, 23] (fun s5 s wr => ∃ i : Nat, i ≤ m2 ∧ s = .int .i64 i ∧ s5 = .bool true ∧ Kept (fun k => q = some k) w3 wr ∧ Row wr 2 q D m2 d ((marks i ws).flatMap cellsW)) (fun _ s _ => (m2 - intOf s).toNat)
    case atStart => exact ⟨0, Nat.zero_le _, rfl, by simp, Kept.refl _ _, HR0.out⟩
    case round =>
      obtain ⟨i, hi, rfl, rfl, hk, hrw⟩ := hrel
      by_cases hlt : i < m2
      · have hil : i < ws.length := by rw [← HNW.out]; exact hlt
        have hmi : i < (marks i ws).length := by rw [marks_len (by omega)]; exact hil
        obtain ⟨g, o, rfl, -, hc⟩ := waits_at (waits_read hrw (by rw [marks_len (by omega)]; exact HNW.out.symm)) (by omega)
        obtain ⟨x0, x1⟩ := hc i hmi
        obtain ⟨g2, o2, rfl, -, hc2⟩ := waits_at (HSR.out wr hk) (by omega)
        obtain ⟨y0, y1⟩ := hc2 i hil
        rw [marks_get hil] at x0 x1
        obtain ⟨g', o', rfl, e2, hcf⟩ := hrw.at_index hlt
        injection e2 with e2
        injection e2 with e2 e3
        subst e2; subst e3
        obtain ⟨-, -, -, hf0⟩ := hcf 0 (by decide)
        obtain ⟨-, -, -, hf1⟩ := hcf 1 (by decide)
        rw [Nat.add_zero] at hf0
        have hm := fun q => row_mark ((hrw.drewN q)) HNW.out hlt
        have hk' := fun q => Kept.setCell (p := ⟨g, o + i * 2 + 1, none⟩) (Kept.setCell (p := ⟨g, o + i * 2, none⟩) (hk.drewN q) (.inr rfl) (.int .i64 (-9))) (.inr rfl) (.int .i64 0)
        generalize ws[i].1 = p1 at *
        generalize ws[i].2 = v1 at *
        have j2 : (0 : Int) ≤ (i : Int) := by omega
        have j3 : (i : Int) < (m2 : Int) := by omega
        have HM := Lib.hid hm
        have HK := Lib.hid hk'
        clear hc hc2 hrw hcf hk hk' hm hil hmi
        go_wp2_with fail
        go_quiet (fail)
        go_wp2_with fail
        go_roundw
        case rel => exact ⟨i + 1, by omega, by go_num, by simp, HK.out _, HM.out _⟩
        case measure => simp [intOf]; omega
      · obtain rfl : i = m2 := by omega
        have HK5 := Lib.hid hk
        clear hk
        clear hrw
        go_wp2_with fail
        go_ret
        rw [E.out]
        exact ⟨rfl, HBOTH.out _ HK5.out⟩
  · have E := Lib.hid (show stepP Ls cur k l p v = (Ls, cur) by simp [stepP, e1, e2, e3, e4, e5, e6])
    have g1 : (k == 1) = false := by simpa using e1
    have g2 : (k == 2) = false := by simpa using e2
    have g3 : (k == 3) = false := by simpa using e3
    have g4 : (k == 4) = false := by simpa using e4
    have g5 : (k == 5) = false := by simpa using e5
    have g6 : (k == 6) = false := by simpa using e6
    have HL := Lib.hid (fun W (hb : BothPX X w W b c Ls cur Ls cur) => (show Calls Try.prog 19 #[.pointer (some ⟨b, 0, none⟩)] W fun e w' => e = .returned (.bool (someP Ls)) ∧ W = w' from by obtain ⟨F, G, hF, -⟩ := hb; exact some_any hF))
    have HR := Lib.hid (fun W (hb : BothPX X w W b c Ls cur Ls cur) => (show Calls Try.prog 39 #[.pointer (some ⟨c, 0, none⟩)] W fun e w' => e = .returned (.bool (someP Ls)) ∧ W = w' from by obtain ⟨F, G, -, hG, -⟩ := hb; exact rpsome_any hG))
    generalize someP Ls = sm at *
    have K1 := Lib.hid k1
    have HB1 := Lib.hid hb1
    have HBX := Lib.hid hbx
    have HX := Lib.hid hX
    have HXF := Lib.hid hXF
    clear k1 hb1 hbx hX hXF
    clear h ho hv hfw htk hdr e1 e2 e3 e4 e5 e6
    go_enter Try.func17, Try.ntmps17
    go_upto_region 29 with (fail)
    generalize wb.alloc (.cells #[.int .i64 k, .int .i64 l, .int .i64 p, .int .i64 v] 50) = w1 at *
    go_wp2_with fail
    refine (HL.out _ HBX.out).mono ?_
    rintro e w2 ⟨rfl, rfl⟩
    go_wp2_with fail
    refine (HR.out _ HBX.out).mono ?_
    rintro e w3 ⟨rfl, rfl⟩
    go_wp2_with fail
    go_ret
    rw [E.out]
    exact ⟨by simp [Array.getD], HBX.out.less HXF.out⟩
end
end Go.Proofs.Ytnfaafdgfafcjaa.Lane
