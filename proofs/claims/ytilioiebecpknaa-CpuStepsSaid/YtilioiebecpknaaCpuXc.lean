/- The walk of the reference's Step (layer 13). -/
import Derived.Test.YtilioiebecpknaaCpuXh
namespace Go.Proofs.Ytilioiebecpknaa.CpuR
open Go.RowKit Go.Fb Go.BytesP Go.CodeP Go.CpuP _root_.Go.Proofs.Ytilioiebecpknaa.Code _root_.Go.Proofs.Ytilioiebecpknaa.Cpu
set_option linter.unusedVariables false
set_option maxHeartbeats 4000000 in
set_option maxRecDepth 100000 in
theorem rstep_30 (c : Core) (A : Option Addr) (n k : Nat) (l : List Ins) (tick self : Int) (w : World) (hl : SliceOf repIns w w.heap.size A n k l) (hin : InC c) (his : isR c l = true) (hop : (atPC c l).1.op = 30) :
    Calls Try.prog 8 #[coreV c, .slice A n k, .int .i64 tick, .int .i64 self] w fun e w' => e = .returned (.tuple #[coreV (stepX c l tick self).1, wantV (stepX c l tick self).2]) ∧ New w w' := by
  obtain ⟨res, hres⟩ : ∃ res, stepX c l tick self = res := ⟨_, rfl⟩
  rw [hres]
  have hat := fun W (hW : New w W) => rat_any c A n k l W (news hl hW)
  have hbase : ∀ W, New (((w.alloc (.cells (coreC c) 34)).alloc (.cells (coreC ⟨0, 0, 0, 0, 0, 0, 0, 0, 0⟩) 34)).alloc (.cells #[.int .i64 0, .int .i64 0, .int .i64 0] 35)) W → Base w W c := fun W hW => (Base.made w c).go hW
  obtain ⟨hck, hst⟩ := stepX_in (tick := tick) (self := self) his
  rw [his] at hat
  have HST0 := hres.symm.trans hst
  clear hres hst
  generalize (atPC c l).1 = x at *
  have hrg := check_regs hck
  obtain ⟨op, a, b, cc, imm⟩ := x
  simp only at hrg hop
  have HOP := Lib.hid hop
  clear hop
  obtain ⟨⟨o1, o2⟩, ⟨a1, a2⟩, ⟨b1, b2⟩, ⟨c1, c2⟩, -⟩ := hrg
  obtain ⟨ma, rfl⟩ : ∃ m : Nat, a = (m : Int) := ⟨a.toNat, by omega⟩
  obtain ⟨mb, rfl⟩ : ∃ m : Nat, b = (m : Int) := ⟨b.toNat, by omega⟩
  obtain ⟨mc, rfl⟩ : ∃ m : Nat, cc = (m : Int) := ⟨cc.toNat, by omega⟩
  have ka : ma < 8 := by omega
  have kb : mb < 8 := by omega
  have kc : mc < 8 := by omega
  clear a1 a2 b1 b2 c1 c2 hck his
  simp only at HST0
  have gb := coreC_get c mb kb
  have gc := coreC_get c mc kc
  have ga := coreC_get c ma ka
  have HCREG := Lib.hid (show ∀ W, Blk W w.heap.size 34 (coreC c) → W.cell? ⟨w.heap.size, 1 + ma, none⟩ = some (.int .i64 (c.get ma)) ∧ W.cell? ⟨w.heap.size, 1 + mb, none⟩ = some (.int .i64 (c.get mb)) ∧ W.cell? ⟨w.heap.size, 1 + mc, none⟩ = some (.int .i64 (c.get mc)) from fun W h => ⟨(h.cell _).trans ga, (h.cell _).trans gb, (h.cell _).trans gc⟩)
  have HST := Lib.hid HST0
  clear HST0 ga gb gc
  obtain ⟨pc, r0, r1, r2, r3, r4, r5, r6, r7⟩ := c
  unfold coreV coreC agg at *
  have HL := Lib.hid hl
  have HAT := Lib.hid hat
  have HBASE := Lib.hid hbase
  have HIN := Lib.hid hin
  clear hl hat hbase hin
  have za1 : (0 : Int) ≤ (ma : Int) := by omega
  have za2 : (ma : Int) < 8 := by omega
  have zb1 : (0 : Int) ≤ (mb : Int) := by omega
  have zb2 : (mb : Int) < 8 := by omega
  have zc1 : (0 : Int) ≤ (mc : Int) := by omega
  have zc2 : (mc : Int) < 8 := by omega
  go_enter Try.func8, Try.ntmps8
  go_wp2_with fail
  generalize hW0 : (((w.alloc (.cells #[.int .i64 pc, .int .i64 r0, .int .i64 r1, .int .i64 r2, .int .i64 r3, .int .i64 r4, .int .i64 r5, .int .i64 r6, .int .i64 r7] 34)).alloc (.cells #[.int .i64 0, .int .i64 0, .int .i64 0, .int .i64 0, .int .i64 0, .int .i64 0, .int .i64 0, .int .i64 0, .int .i64 0] 34)).alloc (.cells #[.int .i64 0, .int .i64 0, .int .i64 0] 35)) = W0 at *
  have hb0 := HBASE.out W0 (Kept.refl _ _)
  refine (HAT.out W0 hb0.new).mono ?_
  rintro e w1 ⟨rfl, hw1⟩
  have hz1 := (HBASE.out w1 hw1).size
  have h5 : Five w (w1.alloc (.cells #[.int .i64 op, .int .i64 (ma : Int), .int .i64 (mb : Int), .int .i64 (mc : Int), .int .i64 imm] 32)) w1.heap.size ⟨pc, r0, r1, r2, r3, r4, r5, r6, r7⟩ ⟨op, (ma : Int), (mb : Int), (mc : Int), imm⟩ :=
    ⟨HBASE.out _ (hw1.alloc _), Blk.made _ _ _, hz1⟩
  clear hb0
  have HW1 := Lib.hid hw1
  clear hw1
  go_upto_region 4 with (fail)
  generalize w1.alloc (.cells #[.int .i64 op, .int .i64 (ma : Int), .int .i64 (mb : Int), .int .i64 (mc : Int), .int .i64 imm] 32) = W at *
  generalize w1.heap.size = p at *
  have HX := Lib.hid (show ∀ V, New W V → ((V.cell? ⟨w.heap.size, 0, none⟩ = some (.int .i64 pc) ∧ V.cell? ⟨w.heap.size, 1, none⟩ = some (.int .i64 r0) ∧ V.cell? ⟨w.heap.size, 2, none⟩ = some (.int .i64 r1) ∧ V.cell? ⟨w.heap.size, 3, none⟩ = some (.int .i64 r2) ∧ V.cell? ⟨w.heap.size, 4, none⟩ = some (.int .i64 r3) ∧ V.cell? ⟨w.heap.size, 5, none⟩ = some (.int .i64 r4) ∧ V.cell? ⟨w.heap.size, 6, none⟩ = some (.int .i64 r5) ∧ V.cell? ⟨w.heap.size, 7, none⟩ = some (.int .i64 r6) ∧ V.cell? ⟨w.heap.size, 8, none⟩ = some (.int .i64 r7)) ∧
      (V.cell? ⟨w.heap.size, 1 + ma, none⟩ = some (.int .i64 (Core.get ⟨pc, r0, r1, r2, r3, r4, r5, r6, r7⟩ ma)) ∧ V.cell? ⟨w.heap.size, 1 + mb, none⟩ = some (.int .i64 (Core.get ⟨pc, r0, r1, r2, r3, r4, r5, r6, r7⟩ mb)) ∧ V.cell? ⟨w.heap.size, 1 + mc, none⟩ = some (.int .i64 (Core.get ⟨pc, r0, r1, r2, r3, r4, r5, r6, r7⟩ mc))) ∧
      (V.cell? ⟨p, 0, none⟩ = some (.int .i64 op) ∧ V.cell? ⟨p, 1, none⟩ = some (.int .i64 (ma : Int)) ∧ V.cell? ⟨p, 2, none⟩ = some (.int .i64 (mb : Int)) ∧ V.cell? ⟨p, 3, none⟩ = some (.int .i64 (mc : Int)) ∧ V.cell? ⟨p, 4, none⟩ = some (.int .i64 imm))) from fun V h =>
    have g := h5.go h
    ⟨Blk.core g.base.b0, HCREG.out V g.base.b0, g.bi.cell 0, g.bi.cell 1, g.bi.cell 2, g.bi.cell 3, g.bi.cell 4⟩)
  have HFIN := Lib.hid (fun V (h : New W V) => (h5.go h).base.fin)
  have hfar := h5.far
  have H5 := Lib.hid h5
  clear h5 hz1
  have n1 : w.heap.size ≠ w.heap.size + 1 := by omega
  have n2 : w.heap.size ≠ w.heap.size + 1 + 1 := by omega
  have n3 : p ≠ w.heap.size + 1 := by omega
  have n4 : p ≠ w.heap.size + 1 + 1 := by omega
  have m1 := n1.symm
  have m2 := n2.symm
  have m3 := n3.symm
  have m4 := n4.symm
  have m5 : w.heap.size + 1 ≠ w.heap.size + 1 + 1 := by omega
  have m6 := m5.symm
  generalize hvb : Core.get ⟨pc, r0, r1, r2, r3, r4, r5, r6, r7⟩ mb = vb at *
  generalize hvc : Core.get ⟨pc, r0, r1, r2, r3, r4, r5, r6, r7⟩ mc = vc at *
  generalize hva : Core.get ⟨pc, r0, r1, r2, r3, r4, r5, r6, r7⟩ ma = va at *
  have HVB := Lib.hid hvb
  have HVC := Lib.hid hvc
  have HVA := Lib.hid hva
  clear hvb hvc hva
  obtain ⟨⟨d0, d1, d2, d3, d4, d5, d6, d7, d8⟩, ⟨j0, j1, j2⟩, i0, i1, i2, i3, i4⟩ := HX.out W (Kept.refl _ _)
  obtain ⟨f1, f2, e0, e1, e2, e3, e4, e5, e6, e7, e8, g0, g1, g2⟩ := HFIN.out W (Kept.refl _ _)
  obtain rfl : op = 30 := HOP.out
  have hres : res = (Core.next ⟨pc, r0, r1, r2, r3, r4, r5, r6, r7⟩, ⟨8, imm, 0⟩) := by
    rw [HST.out]
    first | rfl | (rw [← HVA.out]; rfl) | (rw [← HVB.out, ← HVC.out]; rfl)
  subst hres
  clear HST
  have hnext := fun V (h : New W V) => (rnext_any ⟨pc, r0, r1, r2, r3, r4, r5, r6, r7⟩ V).mono fun e w' (h2 : _ ∧ New V w') => (⟨h2.1, h.trans h2.2, HFIN.out w' (h.trans h2.2), HX.out w' (h.trans h2.2)⟩ : _ ∧ New W w' ∧ _ ∧ _)
  unfold coreV coreC Core.next at hnext
  simp only at hnext
  clear e0 e1 e2 e3 e4 e5 e6 e7 e8 g0 g1 g2 f1 f2
  have HNEXT := Lib.hid hnext
  clear hnext
  go_upto_region 20 with (fail)
  go_region_with (go_at_call 16; refine (HNEXT.out _ (by with_reducible first | exact Kept.refl _ _ | exact Kept.drew (Kept.refl _ _) | assumption)).mono ?_; rintro e w5 ⟨rfl, hw5, ⟨f1, f2, e0, e1, e2, e3, e4, e5, e6, e7, e8, g0, g1, g2⟩, ⟨d0', d1', d2', d3', d4', d5', d6', d7', d8'⟩, ⟨j0', j1', j2'⟩, i0', i1', i2', i3', i4'⟩)
  all_goals
    have hb5 := (H5.out.go hw5).base
    go_wp2_with fail
    first
      | exact step_end (d := ⟨wrap64 (pc + 1), r0, r1, r2, r3, r4, r5, r6, r7⟩) (t := ⟨8, imm, 0⟩) hb5 rfl rfl rfl fun h => ⟨rfl, h⟩
      | exact step_drew (d := ⟨wrap64 (pc + 1), r0, r1, r2, r3, r4, r5, r6, r7⟩) (t := ⟨8, imm, 0⟩) hb5 rfl rfl rfl fun h => ⟨rfl, h⟩
end Go.Proofs.Ytilioiebecpknaa.CpuR
