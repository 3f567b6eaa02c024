/- The walk of the reference's Step (layer 13). -/
import Derived.Test.YtilioiebecpknaaCpuXh
import Derived.Test.YtilioiebecpknaaCpuV
namespace Go.Proofs.Ytilioiebecpknaa.CpuR
open Go.RowKit Go.Fb Go.BytesP Go.CodeP Go.CpuP _root_.Go.Proofs.Ytilioiebecpknaa.Code _root_.Go.Proofs.Ytilioiebecpknaa.Cpu
set_option linter.unusedVariables false
set_option maxHeartbeats 4000000 in
set_option maxRecDepth 100000 in
theorem rstep_reckons (c : Core) (A : Option Addr) (n k : Nat) (l : List Ins) (tick self : Int) (w : World) (hl : SliceOf repIns w w.heap.size A n k l) (hin : InC c) (his : isR c l = true) (hop : Reckons (atPC c l).1.op) :
    Calls Try.prog 8 #[coreV c, .slice A n k, .int .i64 tick, .int .i64 self] w fun e w' => e = .returned (.tuple #[coreV (stepX c l tick self).1, wantV (stepX c l tick self).2]) ∧ New w w' := by
  obtain ⟨res, hres⟩ : ∃ res, stepX c l tick self = res := ⟨_, rfl⟩
  rw [hres]
  have hat := fun W (hW : New w W) => rat_any c A n k l W (news hl hW)
  have hbase : ∀ W, New (((w.alloc (.cells (coreC c) 34)).alloc (.cells (coreC ⟨0, 0, 0, 0, 0, 0, 0, 0, 0⟩) 34)).alloc (.cells #[.int .i64 0, .int .i64 0, .int .i64 0] 35)) W → Base w W c := fun W hW => (Base.made w c).go hW
  obtain ⟨hck, hst⟩ := stepX_in (tick := tick) (self := self) his
  rw [his] at hat
  have HST0 := hres.symm.trans hst
  clear hres hst
  generalize (atPC c l).1 = x at *
  have hrg := check_regs hck
  obtain ⟨op, a, b, cc, imm⟩ := x
  simp only at hrg hop
  have HOP := Lib.hid hop
  clear hop
  obtain ⟨⟨o1, o2⟩, ⟨a1, a2⟩, ⟨b1, b2⟩, ⟨c1, c2⟩, -⟩ := hrg
  obtain ⟨ma, rfl⟩ : ∃ m : Nat, a = (m : Int) := ⟨a.toNat, by omega⟩
  obtain ⟨mb, rfl⟩ : ∃ m : Nat, b = (m : Int) := ⟨b.toNat, by omega⟩
  obtain ⟨mc, rfl⟩ : ∃ m : Nat, cc = (m : Int) := ⟨cc.toNat, by omega⟩
  have ka : ma < 8 := by omega
  have kb : mb < 8 := by omega
  have kc : mc < 8 := by omega
  clear a1 a2 b1 b2 c1 c2 hck his
  simp only at HST0
  have hreck := fun hop W => reckons_any c ⟨op, ma, mb, mc, imm⟩ tick self W hop (by simp only; omega) (by simp only; omega) (by simp only; omega) hin
  have gb := coreC_get c mb kb
  have gc := coreC_get c mc kc
  have ga := coreC_get c ma ka
  have HCREG := Lib.hid (show ∀ W, Blk W w.heap.size 34 (coreC c) → W.cell? ⟨w.heap.size, 1 + ma, none⟩ = some (.int .i64 (c.get ma)) ∧ W.cell? ⟨w.heap.size, 1 + mb, none⟩ = some (.int .i64 (c.get mb)) ∧ W.cell? ⟨w.heap.size, 1 + mc, none⟩ = some (.int .i64 (c.get mc)) from fun W h => ⟨(h.cell _).trans ga, (h.cell _).trans gb, (h.cell _).trans gc⟩)
  have HST := Lib.hid HST0
  clear HST0 ga gb gc
  obtain ⟨pc, r0, r1, r2, r3, r4, r5, r6, r7⟩ := c
  simp only at hreck
  unfold coreV coreC agg at *
  have HL := Lib.hid hl
  have HAT := Lib.hid hat
  have HBASE := Lib.hid hbase
  have HIN := Lib.hid hin
  have HRECK := Lib.hid hreck
  clear hl hat hbase hin hreck
  have za1 : (0 : Int) ≤ (ma : Int) := by omega
  have za2 : (ma : Int) < 8 := by omega
  have zb1 : (0 : Int) ≤ (mb : Int) := by omega
  have zb2 : (mb : Int) < 8 := by omega
  have zc1 : (0 : Int) ≤ (mc : Int) := by omega
  have zc2 : (mc : Int) < 8 := by omega
  go_enter Try.func8, Try.ntmps8
  go_wp2_with fail
  generalize hW0 : (((w.alloc (.cells #[.int .i64 pc, .int .i64 r0, .int .i64 r1, .int .i64 r2, .int .i64 r3, .int .i64 r4, .int .i64 r5, .int .i64 r6, .int .i64 r7] 34)).alloc (.cells #[.int .i64 0, .int .i64 0, .int .i64 0, .int .i64 0, .int .i64 0, .int .i64 0, .int .i64 0, .int .i64 0, .int .i64 0] 34)).alloc (.cells #[.int .i64 0, .int .i64 0, .int .i64 0] 35)) = W0 at *
  have hb0 := HBASE.out W0 (Kept.refl _ _)
  refine (HAT.out W0 hb0.new).mono ?_
  rintro e w1 ⟨rfl, hw1⟩
  have hz1 := (HBASE.out w1 hw1).size
  have h5 : Five w (w1.alloc (.cells #[.int .i64 op, .int .i64 (ma : Int), .int .i64 (mb : Int), .int .i64 (mc : Int), .int .i64 imm] 32)) w1.heap.size ⟨pc, r0, r1, r2, r3, r4, r5, r6, r7⟩ ⟨op, (ma : Int), (mb : Int), (mc : Int), imm⟩ :=
    ⟨HBASE.out _ (hw1.alloc _), Blk.made _ _ _, hz1⟩
  clear hb0
  have HW1 := Lib.hid hw1
  clear hw1
  go_upto_region 4 with (fail)
  generalize w1.alloc (.cells #[.int .i64 op, .int .i64 (ma : Int), .int .i64 (mb : Int), .int .i64 (mc : Int), .int .i64 imm] 32) = W at *
  generalize w1.heap.size = p at *
  have HX := Lib.hid (show ∀ V, New W V → ((V.cell? ⟨w.heap.size, 0, none⟩ = some (.int .i64 pc) ∧ V.cell? ⟨w.heap.size, 1, none⟩ = some (.int .i64 r0) ∧ V.cell? ⟨w.heap.size, 2, none⟩ = some (.int .i64 r1) ∧ V.cell? ⟨w.heap.size, 3, none⟩ = some (.int .i64 r2) ∧ V.cell? ⟨w.heap.size, 4, none⟩ = some (.int .i64 r3) ∧ V.cell? ⟨w.heap.size, 5, none⟩ = some (.int .i64 r4) ∧ V.cell? ⟨w.heap.size, 6, none⟩ = some (.int .i64 r5) ∧ V.cell? ⟨w.heap.size, 7, none⟩ = some (.int .i64 r6) ∧ V.cell? ⟨w.heap.size, 8, none⟩ = some (.int .i64 r7)) ∧
      (V.cell? ⟨w.heap.size, 1 + ma, none⟩ = some (.int .i64 (Core.get ⟨pc, r0, r1, r2, r3, r4, r5, r6, r7⟩ ma)) ∧ V.cell? ⟨w.heap.size, 1 + mb, none⟩ = some (.int .i64 (Core.get ⟨pc, r0, r1, r2, r3, r4, r5, r6, r7⟩ mb)) ∧ V.cell? ⟨w.heap.size, 1 + mc, none⟩ = some (.int .i64 (Core.get ⟨pc, r0, r1, r2, r3, r4, r5, r6, r7⟩ mc))) ∧
      (V.cell? ⟨p, 0, none⟩ = some (.int .i64 op) ∧ V.cell? ⟨p, 1, none⟩ = some (.int .i64 (ma : Int)) ∧ V.cell? ⟨p, 2, none⟩ = some (.int .i64 (mb : Int)) ∧ V.cell? ⟨p, 3, none⟩ = some (.int .i64 (mc : Int)) ∧ V.cell? ⟨p, 4, none⟩ = some (.int .i64 imm))) from fun V h =>
    have g := h5.go h
    ⟨Blk.core g.base.b0, HCREG.out V g.base.b0, g.bi.cell 0, g.bi.cell 1, g.bi.cell 2, g.bi.cell 3, g.bi.cell 4⟩)
  have HFIN := Lib.hid (fun V (h : New W V) => (h5.go h).base.fin)
  have hfar := h5.far
  have H5 := Lib.hid h5
  clear h5 hz1
  have n1 : w.heap.size ≠ w.heap.size + 1 := by omega
  have n2 : w.heap.size ≠ w.heap.size + 1 + 1 := by omega
  have n3 : p ≠ w.heap.size + 1 := by omega
  have n4 : p ≠ w.heap.size + 1 + 1 := by omega
  have m1 := n1.symm
  have m2 := n2.symm
  have m3 := n3.symm
  have m4 := n4.symm
  have m5 : w.heap.size + 1 ≠ w.heap.size + 1 + 1 := by omega
  have m6 := m5.symm
  generalize hvb : Core.get ⟨pc, r0, r1, r2, r3, r4, r5, r6, r7⟩ mb = vb at *
  generalize hvc : Core.get ⟨pc, r0, r1, r2, r3, r4, r5, r6, r7⟩ mc = vc at *
  generalize hva : Core.get ⟨pc, r0, r1, r2, r3, r4, r5, r6, r7⟩ ma = va at *
  have HVB := Lib.hid hvb
  have HVC := Lib.hid hvc
  have HVA := Lib.hid hva
  clear hvb hvc hva
  obtain ⟨⟨d0, d1, d2, d3, d4, d5, d6, d7, d8⟩, ⟨j0, j1, j2⟩, i0, i1, i2, i3, i4⟩ := HX.out W (Kept.refl _ _)
  obtain ⟨f1, f2, e0, e1, e2, e3, e4, e5, e6, e7, e8, g0, g1, g2⟩ := HFIN.out W (Kept.refl _ _)
  have o0 : ¬ op = 0 := by have := HOP.out; unfold Reckons at this; omega
  have gg0 : (op == 0) = false := by simpa using o0
  have o24 : ¬ op = 24 := by have := HOP.out; unfold Reckons at this; omega
  have gg24 : (op == 24) = false := by simpa using o24
  have o25 : ¬ op = 25 := by have := HOP.out; unfold Reckons at this; omega
  have gg25 : (op == 25) = false := by simpa using o25
  have o26 : ¬ op = 26 := by have := HOP.out; unfold Reckons at this; omega
  have gg26 : (op == 26) = false := by simpa using o26
  have o27 : ¬ op = 27 := by have := HOP.out; unfold Reckons at this; omega
  have gg27 : (op == 27) = false := by simpa using o27
  have o28 : ¬ op = 28 := by have := HOP.out; unfold Reckons at this; omega
  have gg28 : (op == 28) = false := by simpa using o28
  have o29 : ¬ op = 29 := by have := HOP.out; unfold Reckons at this; omega
  have gg29 : (op == 29) = false := by simpa using o29
  have o30 : ¬ op = 30 := by have := HOP.out; unfold Reckons at this; omega
  have gg30 : (op == 30) = false := by simpa using o30
  have o31 : ¬ op = 31 := by have := HOP.out; unfold Reckons at this; omega
  have gg31 : (op == 31) = false := by simpa using o31
  have hop : Reckons op := HOP.out
  have hw0 : wants ⟨op, (ma : Int), (mb : Int), (mc : Int), imm⟩ ⟨pc, r0, r1, r2, r3, r4, r5, r6, r7⟩ = (⟨0, 0, 0⟩, false, false) := by
    unfold wants
    simp only [o0, o24, o25, o26, o27, o28, o29, o30, o31, if_false]
  have hres := HST.out
  rw [hw0] at hres
  simp only [Bool.false_eq_true, if_false] at hres
  obtain ⟨⟨p0, p1, p2, p3, p4, p5, p6, p7, p8⟩, hd⟩ : ∃ d, reckon (valX op vb vc) ⟨op, (ma : Int), (mb : Int), (mc : Int), imm⟩ ⟨pc, r0, r1, r2, r3, r4, r5, r6, r7⟩ tick self = d := ⟨_, rfl⟩
  have hrk := HRECK.out hop W
  rw [hd] at hrk hres
  subst hres
  simp only at hrk
  clear hd hw0 HST HRECK o0 o24 o25 o26 o27 o28 o29 o30 o31 hop
  clear e0 e1 e2 e3 e4 e5 e6 e7 e8 g0 g1 g2 f1 f2
  have HRK := Lib.hid hrk
  clear hrk
  go_wp2_with fail
  refine HRK.out.mono ?_
  rintro e w5 ⟨rfl, hw5⟩
  have hb5 := (H5.out.go hw5).base
  obtain ⟨f1, f2, e0, e1, e2, e3, e4, e5, e6, e7, e8, g0, g1, g2⟩ := HFIN.out w5 hw5
  clear d0 d1 d2 d3 d4 d5 d6 d7 d8 j0 j1 j2 i0 i1 i2 i3 i4
  go_wp2_with fail
  exact step_end (d := ⟨p0, p1, p2, p3, p4, p5, p6, p7, p8⟩) (t := ⟨0, 0, 0⟩) hb5 rfl rfl rfl fun h => ⟨rfl, h⟩
end Go.Proofs.Ytilioiebecpknaa.CpuR
