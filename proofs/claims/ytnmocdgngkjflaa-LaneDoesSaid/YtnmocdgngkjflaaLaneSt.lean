/- The walk of firebreaklaw09's step (layer 9). -/
import Derived.Test.YtnmocdgngkjflaaLaneEn
namespace Go.Proofs.Ytnmocdgngkjflaa.Lane
open Go.RowKit Go.Fb
set_option linter.unusedVariables false
/-- How a lane stands behind a step. -/
def stepL (L : Lane) (k p v : Int) : Lane := if k = 1 then (putL L v).1 else if k = 2 then { L with dropped := min (L.dropped + 1) 65535 } else if k = 3 then (takeL L).1 else if k = 4 then (waitL L p v).1 else if k = 5 then (leaveL L p).1 else if k = 6 then { L with waits := [] } else L
theorem OkL.step {M : Nat} {L : Lane} (h : OkL M L) (k p v : Int) (hp : (Lit.int .i64 p).wf = true) : OkL (M + 1) (stepL L k p v) := by
  unfold stepL
  split
  · exact (h.put v).mono (by omega)
  · split
    · exact h.drop.mono (by omega)
    · split
      · exact h.take.mono (by omega)
      · split
        · exact h.wait p v hp
        · split
          · exact (h.leave p).mono (by omega)
          · split
            · exact h.noone.mono (by omega)
            · exact h.mono (by omega)
theorem stepL_room {L : Lane} (k p v : Int) : (stepL L k p v).room = L.room := by
  unfold stepL putL takeL waitL leaveL
  repeat' split
  all_goals rfl
theorem took_form (L : Lane) : ∃ v q lt e, (takeL L).2 = tookV v q lt e := by
  unfold takeL
  split <;> exact ⟨_, _, _, _, rfl⟩
section
variable {w wr : World} {b c : Nat} {L : Lane} {M : Nat}
theorem len_both {X : Nat → Prop} {L2 : Lane} (h : BothX X w wr b c L L2) : Calls Try.prog 10 #[.pointer (some ⟨b, 0, none⟩)] wr fun e w' => e = .returned (.int .i64 L.vals.length) ∧ w' = wr := by
  obtain ⟨F, G, h1, -⟩ := h
  exact (len_any h1).mono fun e w' (h : _ ∧ wr = w') => ⟨h.1, h.2.symm⟩
theorem ref_cells {X : Nat → Prop} {L1 : Lane} (h : BothX X w wr b c L1 L) : ∃ A n, L.vals.length ≤ n ∧ n ≤ 9223372036854775807 ∧ ∀ W, New wr W → W.cell? ⟨c, 1, none⟩ = some (.slice A L.vals.length n) := by
  obtain ⟨F, G, -, ⟨⟨rv, Av, cv, rw, Aw, cw, hp, -, -⟩, -, -⟩, -⟩ := h
  exact ⟨Av, cv, hp.vals.bound.1, hp.vals.bound.2, fun W hW => (hp.kept hW id (fun _ _ h => h) (fun _ _ h => h)).cells.2.1⟩
set_option maxRecDepth 100000 in
set_option maxHeartbeats 8000000 in
theorem step_any (h : Both w wr b c L L) (ho : OkL M L) (hM : M ≤ 8000000000000) (k p v : Int) : Calls Try.prog 19 #[.pointer (some ⟨b, 0, none⟩), .pointer (some ⟨c, 0, none⟩), .agg #[.int .i64 k, .int .i64 p, .int .i64 v]] wr fun e w' => e = .returned (.bool true) ∧ Both w w' b c (stepL L k p v) (stepL L k p v) := by
  have hv64 := ho.vals
  have hfew := ho.few
  have k1 : New wr (wr.alloc (.cells #[.int .i64 k, .int .i64 p, .int .i64 v] 51)) := (Kept.refl _ _).alloc _
  have hb1 := Blk.made wr 51 #[.int .i64 k, .int .i64 p, .int .i64 v]
  obtain ⟨X, hbx, hX⟩ : ∃ X : Nat → Prop, BothX X w (wr.alloc (.cells #[.int .i64 k, .int .i64 p, .int .i64 v] 51)) b c L L ∧ X wr.heap.size := ⟨_, h.add k1, .inr ⟨Nat.le_refl _, hb1.lt⟩⟩
  have hXF : ∀ j : Nat, (fun _ => False) j → X j := fun _ h => h.elim
  by_cases e1 : k = 1
  · subst e1
    have E := Lib.hid (show stepL L 1 p v = (putL L v).1 by simp [stepL])
    have HL := Lib.hid (fun W (hb : BothX X w W b c L L) => hb.left (fun F hF => put_any hF v (by omega)))
    have HR := Lib.hid (fun W L1 (hb : BothX X w W b c L1 L) => hb.right (fun G hG => rput_any hG v (by omega)))
    generalize (putL L v).1 = L' at *
    generalize (putL L v).2 = er at *
    have K1 := Lib.hid k1
    have HB1 := Lib.hid hb1
    have HBX := Lib.hid hbx
    have HX := Lib.hid hX
    have HXF := Lib.hid hXF
    have HV64 := Lib.hid hv64
    have HFEW := Lib.hid hfew
    clear k1 hb1 hbx hX hXF hv64 hfew
    clear h ho
    go_enter Try.func19, Try.ntmps19
    go_upto_region 3 with (fail)
    generalize wr.alloc (.cells #[.int .i64 1, .int .i64 p, .int .i64 v] 51) = w1 at *
    have HZ := Lib.hid (fun W (hW : Kept (fun k => ¬ X k) w1 W) => (show W.cell? ⟨wr.heap.size, 1, none⟩ = some (.int .i64 p) ∧ W.cell? ⟨wr.heap.size, 2, none⟩ = some (.int .i64 v) from ⟨(HB1.out.kept hW (fun h => h HX.out)).cell 1, (HB1.out.kept hW (fun h => h HX.out)).cell 2⟩))
    obtain ⟨z1, z2⟩ := HZ.out w1 (Kept.refl _ _)
    go_wp2_with fail
    refine (HL.out _ HBX.out).mono ?_
    rintro e w2 ⟨rfl, hw2, hk2⟩
    obtain ⟨z1, z2⟩ := HZ.out w2 hk2
    have HW2 := Lib.hid hw2
    clear hw2
    clear hk2
    go_wp2_with fail
    refine (HR.out _ _ HW2.out).mono ?_
    rintro e w3 ⟨rfl, hw3, hk3⟩
    have HW3 := Lib.hid hw3
    clear hw3
    clear hk3
    go_wp2_with fail
    go_ret
    rw [E.out]
    exact ⟨by simp [Array.getD], HW3.out.less HXF.out⟩
  by_cases e2 : k = 2
  · subst e2
    have E := Lib.hid (show stepL L 2 p v = { L with dropped := min (L.dropped + 1) 65535 } by simp [stepL])
    have HL := Lib.hid (fun W (hb : BothX X w W b c L L) => hb.left (fun F hF => drop_any hF ho.dropped))
    have HR := Lib.hid (fun W L1 (hb : BothX X w W b c L1 L) => hb.right (fun G hG => rdrop_any hG ho.dropped))
    generalize ({ L with dropped := min (L.dropped + 1) 65535 } : Lane) = L' at *
    have K1 := Lib.hid k1
    have HB1 := Lib.hid hb1
    have HBX := Lib.hid hbx
    have HX := Lib.hid hX
    have HXF := Lib.hid hXF
    have HV64 := Lib.hid hv64
    have HFEW := Lib.hid hfew
    clear k1 hb1 hbx hX hXF hv64 hfew
    clear h ho
    go_enter Try.func19, Try.ntmps19
    go_upto_region 6 with (fail)
    generalize wr.alloc (.cells #[.int .i64 2, .int .i64 p, .int .i64 v] 51) = w1 at *
    have HZ := Lib.hid (fun W (hW : Kept (fun k => ¬ X k) w1 W) => (show W.cell? ⟨wr.heap.size, 1, none⟩ = some (.int .i64 p) ∧ W.cell? ⟨wr.heap.size, 2, none⟩ = some (.int .i64 v) from ⟨(HB1.out.kept hW (fun h => h HX.out)).cell 1, (HB1.out.kept hW (fun h => h HX.out)).cell 2⟩))
    obtain ⟨z1, z2⟩ := HZ.out w1 (Kept.refl _ _)
    go_wp2_with fail
    refine (HL.out _ HBX.out).mono ?_
    rintro e w2 ⟨rfl, hw2, hk2⟩
    obtain ⟨z1, z2⟩ := HZ.out w2 hk2
    have HW2 := Lib.hid hw2
    clear hw2
    clear hk2
    go_wp2_with fail
    refine (HR.out _ _ HW2.out).mono ?_
    rintro e w3 ⟨rfl, hw3, hk3⟩
    have HW3 := Lib.hid hw3
    clear hw3
    clear hk3
    go_wp2_with fail
    go_ret
    rw [E.out]
    exact ⟨by simp [Array.getD], HW3.out.less HXF.out⟩
  by_cases e3 : k = 3
  · subst e3
    have E := Lib.hid (show stepL L 3 p v = (takeL L).1 by simp [stepL])
    have HL := Lib.hid (fun W (hb : BothX X w W b c L L) => hb.left (fun F hF => (match hv : L.vals, hw : L.waits with
      | [], _ => by have e : takeL L = (L, tookV 0 (0, 0) false 21) := by unfold takeL; rw [hv]
                    rw [e]; exact take_none hF hv
      | x :: rest, [] => by have e : takeL L = ({ L with vals := rest, taken := min (L.taken + 1) 65535 }, tookV x (0, 0) false 0) := by unfold takeL; rw [hv, hw]
                            rw [e]; exact take_plain hF x rest hv hw ho.taken
      | x :: rest, q :: ws => by have e : takeL L = ({ L with vals := rest ++ [q.2], waits := ws, taken := min (L.taken + 1) 65535 }, tookV x q true 0) := by unfold takeL; rw [hv, hw]
                                 rw [e]; exact take_in hF x rest hv q ws hw (by omega) ho.taken : Calls Try.prog 9 #[.pointer (some ⟨b, 0, none⟩)] W (Ends W b F (takeL L).1 (takeL L).2))))
    have HRT := Lib.hid (fun W G (hG : AtR W c G L) => rtake_any hG (by omega) (by omega) ho.taken)
    obtain ⟨tv, tq, tl, te, htk⟩ := took_form L
    rw [htk] at HL HRT
    generalize (takeL L).1 = L' at *
    simp only [tookV] at HL HRT
    clear htk
    have K1 := Lib.hid k1
    have HB1 := Lib.hid hb1
    have HBX := Lib.hid hbx
    have HX := Lib.hid hX
    have HXF := Lib.hid hXF
    have HV64 := Lib.hid hv64
    have HFEW := Lib.hid hfew
    clear k1 hb1 hbx hX hXF hv64 hfew
    clear h ho
    go_enter Try.func19, Try.ntmps19
    go_upto_region 10 with (fail)
    generalize wr.alloc (.cells #[.int .i64 3, .int .i64 p, .int .i64 v] 51) = w1 at *
    have HZ := Lib.hid (fun W (hW : Kept (fun k => ¬ X k) w1 W) => (show W.cell? ⟨wr.heap.size, 1, none⟩ = some (.int .i64 p) ∧ W.cell? ⟨wr.heap.size, 2, none⟩ = some (.int .i64 v) from ⟨(HB1.out.kept hW (fun h => h HX.out)).cell 1, (HB1.out.kept hW (fun h => h HX.out)).cell 2⟩))
    obtain ⟨z1, z2⟩ := HZ.out w1 (Kept.refl _ _)
    go_wp2_with fail
    refine (HL.out _ HBX.out).mono ?_
    rintro e w2 ⟨rfl, hw2, hk2⟩
    have k2 : New w2 (w2.alloc (.cells #[.int .i64 tq.1, .int .i64 tq.2] 31)) := (Kept.refl _ _).alloc _
    have hb2 := Blk.made w2 31 #[.int .i64 tq.1, .int .i64 tq.2]
    obtain ⟨X2, hbx2, hX2⟩ : ∃ X2 : Nat → Prop, BothX X2 w (w2.alloc (.cells #[.int .i64 tq.1, .int .i64 tq.2] 31)) b c L' L ∧ X2 w2.heap.size := ⟨_, hw2.add k2, .inr ⟨Nat.le_refl _, hb2.lt⟩⟩
    have hXF2 : ∀ j : Nat, (fun _ => False) j → X2 j := fun _ h => h.elim
    have HR2 := Lib.hid (fun W L1 (hb : BothX X2 w W b c L1 L) => hb.right (fun G hG => HRT.out W G hG))
    have K2 := Lib.hid k2
    have HB2 := Lib.hid hb2
    have HBX2 := Lib.hid hbx2
    have HX2 := Lib.hid hX2
    have HXF2 := Lib.hid hXF2
    clear k2 hb2 hbx2 hX2 hXF2
    clear hw2 hk2 z1 z2
    go_upto_region 11 with (fail)
    generalize w2.alloc (.cells #[.int .i64 tq.1, .int .i64 tq.2] 31) = w3 at *
    go_wp2_with fail
    refine (HR2.out _ _ HBX2.out).mono ?_
    rintro e w4 ⟨rfl, hw4, hk4⟩
    have k5 : New w4 (w4.alloc (.cells #[.int .i64 tq.1, .int .i64 tq.2] 31)) := (Kept.refl _ _).alloc _
    have hb5 := Blk.made w4 31 #[.int .i64 tq.1, .int .i64 tq.2]
    have hb4 := (HB2.out.kept hk4 (fun h => h HX2.out)).kept k5 id
    have hw5 := (hw4.new k5).less HXF2.out
    have HB5 := Lib.hid hb5
    have HB4 := Lib.hid hb4
    have HW5 := Lib.hid hw5
    clear hb5 hb4 hw5
    clear hw4 hk4 k5
    go_upto_region 12 with (fail)
    generalize w4.alloc (.cells #[.int .i64 tq.1, .int .i64 tq.2] 31) = w5 at *
    have x0 := HB4.out.cell 0
    have x1 := HB4.out.cell 1
    have y0 := HB5.out.cell 0
    have y1 := HB5.out.cell 1
    simp only [List.getElem?_toArray, List.getElem?_cons_zero, List.getElem?_cons_succ] at x0 x1 y0 y1
    go_wp2_with fail
    go_ret
    rw [E.out]
    exact ⟨by simp [Array.getD], HW5.out⟩
  by_cases e4 : k = 4
  · subst e4
    have E := Lib.hid (show stepL L 4 p v = (waitL L p v).1 by simp [stepL])
    have HL := Lib.hid (fun W (hb : BothX X w W b c L L) => hb.left (fun F hF => wait_any hF p v (by omega)))
    have HR := Lib.hid (fun W L1 (hb : BothX X w W b c L1 L) => hb.right (fun G hG => rwait_any hG p v (by omega)))
    generalize (waitL L p v).1 = L' at *
    generalize (waitL L p v).2 = er at *
    have K1 := Lib.hid k1
    have HB1 := Lib.hid hb1
    have HBX := Lib.hid hbx
    have HX := Lib.hid hX
    have HXF := Lib.hid hXF
    have HV64 := Lib.hid hv64
    have HFEW := Lib.hid hfew
    clear k1 hb1 hbx hX hXF hv64 hfew
    clear h ho
    go_enter Try.func19, Try.ntmps19
    go_upto_region 14 with (fail)
    generalize wr.alloc (.cells #[.int .i64 4, .int .i64 p, .int .i64 v] 51) = w1 at *
    have HZ := Lib.hid (fun W (hW : Kept (fun k => ¬ X k) w1 W) => (show W.cell? ⟨wr.heap.size, 1, none⟩ = some (.int .i64 p) ∧ W.cell? ⟨wr.heap.size, 2, none⟩ = some (.int .i64 v) from ⟨(HB1.out.kept hW (fun h => h HX.out)).cell 1, (HB1.out.kept hW (fun h => h HX.out)).cell 2⟩))
    obtain ⟨z1, z2⟩ := HZ.out w1 (Kept.refl _ _)
    go_wp2_with fail
    refine (HL.out _ HBX.out).mono ?_
    rintro e w2 ⟨rfl, hw2, hk2⟩
    obtain ⟨z1, z2⟩ := HZ.out w2 hk2
    have HW2 := Lib.hid hw2
    clear hw2
    clear hk2
    go_wp2_with fail
    refine (HR.out _ _ HW2.out).mono ?_
    rintro e w3 ⟨rfl, hw3, hk3⟩
    have HW3 := Lib.hid hw3
    clear hw3
    clear hk3
    go_wp2_with fail
    go_ret
    rw [E.out]
    exact ⟨by simp [Array.getD], HW3.out.less HXF.out⟩
  by_cases e5 : k = 5
  · subst e5
    have E := Lib.hid (show stepL L 5 p v = (leaveL L p).1 by simp [stepL])
    have HL := Lib.hid (fun W (hb : BothX X w W b c L L) => hb.left (fun F hF => leave_any hF p))
    have HR := Lib.hid (fun W L1 (hb : BothX X w W b c L1 L) => hb.right (fun G hG => rleave_any hG p (by omega)))
    generalize (leaveL L p).1 = L' at *
    generalize (leaveL L p).2 = er at *
    have K1 := Lib.hid k1
    have HB1 := Lib.hid hb1
    have HBX := Lib.hid hbx
    have HX := Lib.hid hX
    have HXF := Lib.hid hXF
    have HV64 := Lib.hid hv64
    have HFEW := Lib.hid hfew
    clear k1 hb1 hbx hX hXF hv64 hfew
    clear h ho
    go_enter Try.func19, Try.ntmps19
    go_upto_region 17 with (fail)
    generalize wr.alloc (.cells #[.int .i64 5, .int .i64 p, .int .i64 v] 51) = w1 at *
    have HZ := Lib.hid (fun W (hW : Kept (fun k => ¬ X k) w1 W) => (show W.cell? ⟨wr.heap.size, 1, none⟩ = some (.int .i64 p) ∧ W.cell? ⟨wr.heap.size, 2, none⟩ = some (.int .i64 v) from ⟨(HB1.out.kept hW (fun h => h HX.out)).cell 1, (HB1.out.kept hW (fun h => h HX.out)).cell 2⟩))
    obtain ⟨z1, z2⟩ := HZ.out w1 (Kept.refl _ _)
    go_wp2_with fail
    refine (HL.out _ HBX.out).mono ?_
    rintro e w2 ⟨rfl, hw2, hk2⟩
    obtain ⟨z1, z2⟩ := HZ.out w2 hk2
    have HW2 := Lib.hid hw2
    clear hw2
    clear hk2
    go_wp2_with fail
    refine (HR.out _ _ HW2.out).mono ?_
    rintro e w3 ⟨rfl, hw3, hk3⟩
    have HW3 := Lib.hid hw3
    clear hw3
    clear hk3
    go_wp2_with fail
    go_ret
    rw [E.out]
    exact ⟨by simp [Array.getD], HW3.out.less HXF.out⟩
  by_cases e6 : k = 6
  · subst e6
    have E := Lib.hid (show stepL L 6 p v = { L with waits := [] } by simp [stepL])
    have HL := Lib.hid (fun W (hb : Both w W b c L L) => ended_any hb (by omega))
    generalize ({ L with waits := [] } : Lane) = L' at *
    have K1 := Lib.hid k1
    have HB1 := Lib.hid hb1
    have HBX := Lib.hid hbx
    have HX := Lib.hid hX
    have HXF := Lib.hid hXF
    have HV64 := Lib.hid hv64
    have HFEW := Lib.hid hfew
    clear k1 hb1 hbx hX hXF hv64 hfew
    clear h ho
    go_enter Try.func19, Try.ntmps19
    go_upto_region 20 with (fail)
    generalize wr.alloc (.cells #[.int .i64 6, .int .i64 p, .int .i64 v] 51) = w1 at *
    have HZ := Lib.hid (fun W (hW : Kept (fun k => ¬ X k) w1 W) => (show W.cell? ⟨wr.heap.size, 1, none⟩ = some (.int .i64 p) ∧ W.cell? ⟨wr.heap.size, 2, none⟩ = some (.int .i64 v) from ⟨(HB1.out.kept hW (fun h => h HX.out)).cell 1, (HB1.out.kept hW (fun h => h HX.out)).cell 2⟩))
    obtain ⟨z1, z2⟩ := HZ.out w1 (Kept.refl _ _)
    go_wp2_with fail
    refine (HL.out _ (HBX.out.less HXF.out)).mono ?_
    rintro e w2 ⟨rfl, hw2⟩
    have HW2 := Lib.hid hw2
    clear hw2
    go_wp2_with fail
    go_ret
    rw [E.out]
    exact ⟨by simp [Array.getD], HW2.out⟩
  · have E := Lib.hid (show stepL L k p v = L by simp [stepL, e1, e2, e3, e4, e5, e6])
    have g1 : (k == 1) = false := by simpa using e1
    have g2 : (k == 2) = false := by simpa using e2
    have g3 : (k == 3) = false := by simpa using e3
    have g4 : (k == 4) = false := by simpa using e4
    have g5 : (k == 5) = false := by simpa using e5
    have g6 : (k == 6) = false := by simpa using e6
    have K1 := Lib.hid k1
    have HB1 := Lib.hid hb1
    have HBX := Lib.hid hbx
    have HX := Lib.hid hX
    have HXF := Lib.hid hXF
    have HV64 := Lib.hid hv64
    have HFEW := Lib.hid hfew
    clear k1 hb1 hbx hX hXF hv64 hfew
    clear h ho e1 e2 e3 e4 e5 e6
    go_enter Try.func19, Try.ntmps19
    go_upto_region 21 with (fail)
    generalize wr.alloc (.cells #[.int .i64 k, .int .i64 p, .int .i64 v] 51) = w1 at *
    obtain ⟨Ar, nr, b1, b2, hc⟩ := ref_cells HBX.out
    have hlq := fun q => len_both (HBX.out.new ((Kept.refl _ _).drewN q))
    have x1 := hc w1 (Kept.refl _ _)
    generalize L.vals.length = nv at *
    have HLQ := Lib.hid hlq
    have HC := Lib.hid hc
    clear hlq hc
    go_quiet (exact Calls.quiet_of_same (HLQ.out _))
    go_wp2_with fail
    go_ret
    rw [E.out]
    exact ⟨by simp [Array.getD], (HBX.out.new ((Kept.refl _ _).drewN _)).less HXF.out⟩
end
end Go.Proofs.Ytnmocdgngkjflaa.Lane
