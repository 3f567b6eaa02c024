/- The walks of awake and CpuChanges (layer 13). -/
import Derived.Test.YtilioiebecpknaaCpuS
import Derived.Test.YtilioiebecpknaaCpuC
namespace Go.Proofs.Ytilioiebecpknaa.Cpu
open Go.RowKit Go.Fb Go.BytesP Go.CodeP Go.CpuP _root_.Go.Proofs.Ytilioiebecpknaa.Code
set_option linter.unusedVariables false

theorem ins_one (w : World) (x : Ins) (hx : Wf x) (T : TypeId) (g : Nat) (hg : g = w.heap.size) : SliceOf repIns (w.alloc (.cells (cellsI x).toArray T)) (w.alloc (.cells (cellsI x).toArray T)).heap.size (some ⟨g, 0, none⟩) 1 1 [x] := by
  subst hg
  have h := Row.of_made (T := T) (c := 1) (size := 5) w (cellsI x) rfl (by unfold maxLen; decide) (by decide)
  refine Row.slice (R := repIns) (f := cellsI) (r := some w.heap.size) (by rw [List.flatMap_singleton]; exact h) (by decide) rfl ?_
  intro y hy
  rw [List.mem_singleton.1 hy]
  exact ⟨rfl, hx⟩
def iSub : Ins := ⟨4, 0, 1, 2, 0⟩
def iSend : Ins := ⟨24, 0, 1, 2, 0⟩
def c0 : Core := ⟨0, 0, 7, 3, 0, 0, 0, 0, 0⟩
def c1 : Core := ⟨1, 0, 0, 0, 0, 0, 0, 0, 0⟩
theorem st_sub : stepC 4 c0 [iSub] 5 6 = (⟨1, 4, 7, 3, 0, 0, 0, 0, 0⟩, ⟨0, 0, 0⟩) := by kernel_rfl
theorem st_send (v : Int) : stepC v c0 [iSend] 5 6 = (c0, ⟨2, 7, 3⟩) := by kernel_rfl
theorem st_out (v : Int) : stepC v c1 [iSub] 5 6 = (c1, ⟨1, 0, 0⟩) := by kernel_rfl
theorem wf_sub : Wf iSub := by unfold Wf iSub; decide
theorem wf_send : Wf iSend := by unfold Wf iSend; decide
theorem step_one (A : Option Addr) (w : World) (hl : SliceOf repIns w w.heap.size A 1 1 [iSub]) : Calls Try.prog 7 #[.agg #[.int .i64 0, .int .i64 0, .int .i64 7, .int .i64 3, .int .i64 0, .int .i64 0, .int .i64 0, .int .i64 0, .int .i64 0], .slice A 1 1, .int .i64 5, .int .i64 6] w fun e w' =>
    e = .returned (.tuple #[.agg #[.int .i64 1, .int .i64 4, .int .i64 7, .int .i64 3, .int .i64 0, .int .i64 0, .int .i64 0, .int .i64 0, .int .i64 0], .agg #[.int .i64 0, .int .i64 0, .int .i64 0]]) ∧ New w w' := by
  refine (step_any c0 A 1 1 [iSub] 5 6 w hl).mono ?_
  rintro e w' ⟨⟨v, hf, rfl⟩, hn⟩
  have hv : v = 4 := by
    rw [hf ⟨by show (3 : Int) ≤ 4; decide, by show (4 : Int) ≤ 14; decide⟩]
    kernel_rfl
  subst hv
  rw [st_sub]
  exact ⟨rfl, hn⟩
theorem step_two (A : Option Addr) (w : World) (hl : SliceOf repIns w w.heap.size A 1 1 [iSend]) : Calls Try.prog 7 #[.agg #[.int .i64 0, .int .i64 0, .int .i64 7, .int .i64 3, .int .i64 0, .int .i64 0, .int .i64 0, .int .i64 0, .int .i64 0], .slice A 1 1, .int .i64 5, .int .i64 6] w fun e w' =>
    e = .returned (.tuple #[.agg #[.int .i64 0, .int .i64 0, .int .i64 7, .int .i64 3, .int .i64 0, .int .i64 0, .int .i64 0, .int .i64 0, .int .i64 0], .agg #[.int .i64 2, .int .i64 7, .int .i64 3]]) ∧ New w w' := by
  refine (step_any c0 A 1 1 [iSend] 5 6 w hl).mono ?_
  rintro e w' ⟨⟨v, hf, rfl⟩, hn⟩
  rw [st_send]
  exact ⟨rfl, hn⟩
theorem step_three (A : Option Addr) (w : World) (hl : SliceOf repIns w w.heap.size A 1 1 [iSub]) : Calls Try.prog 7 #[.agg #[.int .i64 1, .int .i64 0, .int .i64 0, .int .i64 0, .int .i64 0, .int .i64 0, .int .i64 0, .int .i64 0, .int .i64 0], .slice A 1 1, .int .i64 5, .int .i64 6] w fun e w' =>
    e = .returned (.tuple #[.agg #[.int .i64 1, .int .i64 0, .int .i64 0, .int .i64 0, .int .i64 0, .int .i64 0, .int .i64 0, .int .i64 0, .int .i64 0], .agg #[.int .i64 1, .int .i64 0, .int .i64 0]]) ∧ New w w' := by
  refine (step_any c1 A 1 1 [iSub] 5 6 w hl).mono ?_
  rintro e w' ⟨⟨v, hf, rfl⟩, hn⟩
  rw [st_out]
  exact ⟨rfl, hn⟩
set_option maxRecDepth 100000 in
set_option maxHeartbeats 2000000 in
theorem awake_any (w : World) : Calls Try.prog 6 #[] w fun e w' => e = .returned (.bool true) ∧ New w w' := by
  have heq : ∀ w : World, (binOp .eql 25 (.agg #[.int .i64 0, .int .i64 0, .int .i64 7, .int .i64 3, .int .i64 0, .int .i64 0, .int .i64 0, .int .i64 0, .int .i64 0]) (.agg #[.int .i64 0, .int .i64 0, .int .i64 7, .int .i64 3, .int .i64 0, .int .i64 0, .int .i64 0, .int .i64 0, .int .i64 0])).run Try.prog w = .ok (.bool true) w := fun w => by kernel_rfl
  go_enter Try.func6, Try.ntmps6
  go_wp2_with fail
  generalize hW1 : (w.alloc (.cells #[.int .i64 0, .int .i64 0, .int .i64 7, .int .i64 3, .int .i64 0, .int .i64 0, .int .i64 0, .int .i64 0, .int .i64 0] 25)).alloc (.cells #[.int .i64 4, .int .i64 0, .int .i64 1, .int .i64 2, .int .i64 0] 32) = W1
  have hN1 : New w W1 := by rw [← hW1]; exact ((Kept.refl _ _).alloc _).alloc _
  have hB1 : Blk W1 w.heap.size 25 (coreC c0) := by rw [← hW1]; exact (Blk.made _ _ _).alloc _
  have hL1 : SliceOf repIns W1 W1.heap.size (some ⟨w.heap.size + 1, 0, none⟩) 1 1 [iSub] := by
    rw [← hW1]
    exact ins_one _ iSub wf_sub 32 _ (size1 _ _)
  have hz1 : w.heap.size + 1 + 1 ≤ W1.heap.size := by rw [← hW1, ← size1, ← size1]; exact Nat.le_refl _
  clear hW1
  have HN1 := Lib.hid hN1
  have HB1 := Lib.hid hB1
  have HL1 := Lib.hid hL1
  clear hN1 hB1 hL1
  refine (step_one _ W1 HL1.out).mono ?_
  rintro e w2 ⟨rfl, hn2⟩
  have hz2 := hn2.size
  have hB2 := HB1.out.kept hn2 id
  have hL2 := news HL1.out hn2
  have hN2 := HN1.out.trans hn2
  have HN2 := Lib.hid hn2
  have HB2 := Lib.hid hB2
  have HL2 := Lib.hid hL2
  have HNN2 := Lib.hid hN2
  clear hn2 hB2 hL2 hN2
  go_upto_region 6 with (fail)
  generalize hW : (w2.alloc (.cells #[.int .i64 1, .int .i64 4, .int .i64 7, .int .i64 3, .int .i64 0, .int .i64 0, .int .i64 0, .int .i64 0, .int .i64 0] 25)).alloc (.cells #[.int .i64 0, .int .i64 0, .int .i64 0] 28) = W3
  have h_3 : New w2 W3 := by rw [← hW]; exact ((Kept.refl _ _).alloc _).alloc _
  have hb_3 : Blk W3 w2.heap.size 25 (coreC ⟨1, 4, 7, 3, 0, 0, 0, 0, 0⟩) := by rw [← hW]; exact (Blk.made _ _ _).alloc _
  have hw_3 : Blk W3 (w2.heap.size + 1) 28 (wantC ⟨0, 0, 0⟩) := by rw [← hW]; exact Blk.made_at _ _ _ _ (size1 _ _)
  have hz_3 : w2.heap.size + 1 + 1 ≤ W3.heap.size := by rw [← hW, ← size1, ← size1]; exact Nat.le_refl _
  clear hW
  have hc3 := HB2.out.kept h_3 id
  obtain ⟨d0, d1, d2, d3, d4, d5, d6, d7, d8⟩ := Blk.core hc3
  have hl3 := ins_one W3 iSend wf_send 32 _ rfl
  have hn3 : New W3 (W3.alloc (.cells #[.int .i64 24, .int .i64 0, .int .i64 1, .int .i64 2, .int .i64 0] 32)) := (Kept.refl _ _).alloc _
  have hz3 := size1 W3 (.cells #[.int .i64 24, .int .i64 0, .int .i64 1, .int .i64 2, .int .i64 0] 32)
  have H_3 := Lib.hid h_3
  have HB_3 := Lib.hid hb_3
  have HW_3 := Lib.hid hw_3
  have HC3 := Lib.hid hc3
  have HL3 := Lib.hid hl3
  have HN3 := Lib.hid hn3
  have HZ3 := Lib.hid hz3
  clear h_3 hb_3 hw_3 hc3 hl3 hn3 hz3
  go_wp2_with fail
  refine (step_two _ _ HL3.out).mono ?_
  rintro e w4 ⟨rfl, hn4⟩
  have h34 := HN3.out.trans hn4
  have hz4 : W3.heap.size + 1 ≤ w4.heap.size := Nat.le_trans (Nat.le_of_eq HZ3.out) hn4.size
  clear d0 d1 d2 d3 d4 d5 d6 d7 d8 hn4
  have H34 := Lib.hid h34
  clear h34
  go_upto_region 7 with (fail)
  generalize hW : (w4.alloc (.cells #[.int .i64 0, .int .i64 0, .int .i64 7, .int .i64 3, .int .i64 0, .int .i64 0, .int .i64 0, .int .i64 0, .int .i64 0] 25)).alloc (.cells #[.int .i64 2, .int .i64 7, .int .i64 3] 28) = W5
  have h_5 : New w4 W5 := by rw [← hW]; exact ((Kept.refl _ _).alloc _).alloc _
  have hb_5 : Blk W5 w4.heap.size 25 (coreC ⟨0, 0, 7, 3, 0, 0, 0, 0, 0⟩) := by rw [← hW]; exact (Blk.made _ _ _).alloc _
  have hw_5 : Blk W5 (w4.heap.size + 1) 28 (wantC ⟨2, 7, 3⟩) := by rw [← hW]; exact Blk.made_at _ _ _ _ (size1 _ _)
  have hz_5 : w4.heap.size + 1 + 1 ≤ W5.heap.size := by rw [← hW, ← size1, ← size1]; exact Nat.le_refl _
  clear hW
  have hl5 := news HL2.out ((H_3.out.trans H34.out).trans h_5)
  have hc5 := HC3.out.kept (H34.out.trans h_5) id
  have H_5 := Lib.hid h_5
  have HB_5 := Lib.hid hb_5
  have HW_5 := Lib.hid hw_5
  have HL5 := Lib.hid hl5
  have HC5 := Lib.hid hc5
  clear h_5 hb_5 hw_5 hl5 hc5
  go_wp2_with fail
  refine (step_three _ _ HL5.out).mono ?_
  rintro e w6 ⟨rfl, hn6⟩
  have hz6 := hn6.size
  have HN6 := Lib.hid hn6
  clear hn6
  go_upto_region 8 with (fail)
  generalize hW : (w6.alloc (.cells #[.int .i64 1, .int .i64 0, .int .i64 0, .int .i64 0, .int .i64 0, .int .i64 0, .int .i64 0, .int .i64 0, .int .i64 0] 25)).alloc (.cells #[.int .i64 1, .int .i64 0, .int .i64 0] 28) = W7
  have h_7 : New w6 W7 := by rw [← hW]; exact ((Kept.refl _ _).alloc _).alloc _
  have hb_7 : Blk W7 w6.heap.size 25 (coreC ⟨1, 0, 0, 0, 0, 0, 0, 0, 0⟩) := by rw [← hW]; exact (Blk.made _ _ _).alloc _
  have hw_7 : Blk W7 (w6.heap.size + 1) 28 (wantC ⟨1, 0, 0⟩) := by rw [← hW]; exact Blk.made_at _ _ _ _ (size1 _ _)
  have hz_7 : w6.heap.size + 1 + 1 ≤ W7.heap.size := by rw [← hW, ← size1, ← size1]; exact Nat.le_refl _
  clear hW
  have hN7 : New w W7 := ((((HNN2.out.trans H_3.out).trans H34.out).trans H_5.out).trans HN6.out).trans h_7
  have h57 := HN6.out.trans h_7
  have h37 := (H34.out.trans H_5.out).trans h57
  obtain ⟨d0, d1, d2, d3, d4, d5, d6, d7, d8⟩ := Blk.core (HC5.out.kept h57 id)
  obtain ⟨a0, a1, a2, a3, a4, a5, a6, a7, a8⟩ := Blk.core (HB_3.out.kept h37 id)
  have hwa := HW_3.out.kept h37 id
  have b0 := hwa.cell 0
  have b1 := hwa.cell 1
  have b2 := hwa.cell 2
  obtain ⟨e0, e1, e2, e3, e4, e5, e6, e7, e8⟩ := Blk.core (HB_5.out.kept h57 id)
  have hwb := HW_5.out.kept h57 id
  have f0 := hwb.cell 0
  have f1 := hwb.cell 1
  have f2 := hwb.cell 2
  have g0 := hw_7.cell 0
  have g1 := hw_7.cell 1
  have g2 := hw_7.cell 2
  simp only [wantC, c0, List.getElem?_toArray, List.getElem?_cons_zero, List.getElem?_cons_succ] at d0 d1 d2 d3 d4 d5 d6 d7 d8 a0 a1 a2 a3 a4 a5 a6 a7 a8 b0 b1 b2 e0 e1 e2 e3 e4 e5 e6 e7 e8 f0 f1 f2 g0 g1 g2
  have HN7 := Lib.hid hN7
  clear hN7
  clear hwa hwb h57 h37 hb_7 hw_7 h_7
  go_wp2_with fail
  go_ret
  exact ⟨rfl, HN7.out⟩
theorem names_walk (w : World) : Calls Try.prog 3 #[] w fun e w' => e = .returned (.bool true) ∧ New w w' := by
  have h := awake_any w
  have H := Lib.hid h
  clear h
  go_enter Try.func3, Try.ntmps3
  go_wp2_with (refine H.out.mono ?_; rintro e w' ⟨rfl, hw⟩)
  go_ret
  exact ⟨rfl, hw⟩
end Go.Proofs.Ytilioiebecpknaa.Cpu
