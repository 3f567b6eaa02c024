/- The walk of the reference's reckons (layer 13). -/
import Derived.Test.YtilioiebecpknaaCpuH
import Derived.Test.YtilioiebecpknaaND
import Derived.Test.YtilioiebecpknaaAA
namespace Go.Proofs.Ytilioiebecpknaa.CpuR
open Go.RowKit Go.Fb Go.BytesP Go.CodeP Go.CpuP _root_.Go.Proofs.Ytilioiebecpknaa.Code _root_.Go.Proofs.Ytilioiebecpknaa.Cpu
set_option linter.unusedVariables false
set_option maxHeartbeats 4000000 in
set_option maxRecDepth 100000 in
theorem reckons_17 (c : Core) (x : Ins) (tick self : Int) (w : World) (hop : x.op = 17) (ha : 0 ≤ x.a ∧ x.a < 8) (hb : 0 ≤ x.b ∧ x.b < 8) (hc : 0 ≤ x.c ∧ x.c < 8) (hin : InC c) :
    Calls Try.prog 24 #[coreV c, agg x, .int .i64 tick, .int .i64 self] w fun e w' => e = .returned (coreV (reckon (valX x.op (c.get x.b) (c.get x.c)) x c tick self)) ∧ New w w' := by
  obtain ⟨op, a, b, cc, imm⟩ := x
  obtain ⟨ma, rfl, ka⟩ : ∃ m : Nat, a = (m : Int) ∧ m < 8 := ⟨a.toNat, by simp only at ha; omega, by simp only at ha; omega⟩
  obtain ⟨mb, rfl, kb⟩ : ∃ m : Nat, b = (m : Int) ∧ m < 8 := ⟨b.toNat, by simp only at hb; omega, by simp only at hb; omega⟩
  obtain ⟨mc, rfl, kc⟩ : ∃ m : Nat, cc = (m : Int) ∧ m < 8 := ⟨cc.toNat, by simp only at hc; omega, by simp only at hc; omega⟩
  clear ha hb hc
  simp only at hop
  have HOP := Lib.hid hop
  clear hop
  have hib := hin mb
  have hic := hin mc
  have gb := coreC_get c mb kb
  have gc := coreC_get c mc kc
  have ga := coreC_get c ma ka
  have ja := coreC_get c.next ma ka
  generalize hvb : c.get mb = vb at *
  generalize hvc : c.get mc = vc at *
  generalize hva : c.get ma = va at *
  generalize c.next.get ma = na at *
  obtain ⟨res, hres⟩ : ∃ res, reckon (valX op vb vc) ⟨op, ma, mb, mc, imm⟩ c tick self = res := ⟨_, rfl⟩
  show Calls _ _ _ _ fun e w' => e = .returned (coreV (reckon (valX op vb vc) ⟨op, ma, mb, mc, imm⟩ c tick self)) ∧ New w w'
  rw [hres]
  have HRES := Lib.hid (show (if op = 1 then (c.put ma imm).next else if op = 2 then (c.put ma vb).next else if op = 32 then (c.put ma tick).next else if op = 33 then (c.put ma self).next else if op = 22 then { c with pc := imm } else if op = 23 then (if va = 0 then c.next else { c with pc := imm }) else (c.put ma (valX op vb vc)).next) = res from by
    rw [← hres, ← hvb, ← hva]
    unfold reckon
    rfl)
  clear hres
  have HVB := Lib.hid hvb
  have HVC := Lib.hid hvc
  have HVA := Lib.hid hva
  clear hvb hvc hva
  have h4 : ∀ W, Blk W w.heap.size 34 (coreC c) → W.cell? ⟨w.heap.size, 1 + ma, none⟩ = some (.int .i64 va) ∧ W.cell? ⟨w.heap.size, 1 + mb, none⟩ = some (.int .i64 vb) ∧ W.cell? ⟨w.heap.size, 1 + mc, none⟩ = some (.int .i64 vc) := fun W h => ⟨(h.cell _).trans ga, (h.cell _).trans gb, (h.cell _).trans gc⟩
  have h9 : ∀ W, Blk W (w.heap.size + 1 + 1 + 1) 34 (coreC c.next) → W.cell? ⟨w.heap.size + 1 + 1 + 1, 1 + ma, none⟩ = some (.int .i64 na) ∧ ∀ j, W.frozen? ⟨w.heap.size + 1 + 1 + 1, j, none⟩ = false := fun W h => ⟨(h.cell _).trans ja, h.free⟩
  obtain ⟨pc, r0, r1, r2, r3, r4, r5, r6, r7⟩ := c
  clear ga gb gc ja
  have H4 := Lib.hid h4
  have H9 := Lib.hid h9
  have HIN := Lib.hid hin
  clear h4 h9 hin
  unfold coreV coreC agg
  simp only
  have za1 : (0 : Int) ≤ (ma : Int) := by omega
  have za2 : (ma : Int) < 8 := by omega
  have zb1 : (0 : Int) ≤ (mb : Int) := by omega
  have zb2 : (mb : Int) < 8 := by omega
  have zc1 : (0 : Int) ≤ (mc : Int) := by omega
  have zc2 : (mc : Int) < 8 := by omega
  go_enter Try.func24, Try.ntmps24
  go_upto_region 3 with (fail)
  have h1 : ∀ W, W = (((w.alloc (.cells #[.int .i64 pc, .int .i64 r0, .int .i64 r1, .int .i64 r2, .int .i64 r3, .int .i64 r4, .int .i64 r5, .int .i64 r6, .int .i64 r7] 34)).alloc (.cells #[.int .i64 op, .int .i64 (ma : Int), .int .i64 (mb : Int), .int .i64 (mc : Int), .int .i64 imm] 32)).alloc (.cells #[.int .i64 0, .int .i64 0, .int .i64 0, .int .i64 0, .int .i64 0, .int .i64 0, .int .i64 0, .int .i64 0, .int .i64 0] 34)).alloc (.cells #[.int .i64 (wrap64 (pc + 1)), .int .i64 r0, .int .i64 r1, .int .i64 r2, .int .i64 r3, .int .i64 r4, .int .i64 r5, .int .i64 r6, .int .i64 r7] 34) → Four w W ⟨pc, r0, r1, r2, r3, r4, r5, r6, r7⟩ (Core.next ⟨pc, r0, r1, r2, r3, r4, r5, r6, r7⟩) ⟨op, ma, mb, mc, imm⟩ := by
    rintro W rfl
    exact ⟨((((Kept.refl _ _).alloc _).alloc _).alloc _).alloc _, (((Blk.made _ _ _).alloc _).alloc _).alloc _, ((Blk.made_at _ _ _ _ (size1 _ _)).alloc _).alloc _, (Blk.made_at _ _ _ _ (by rw [← size1, ← size1])).alloc _, Blk.made_at _ _ _ _ (by rw [← size1, ← size1, ← size1])⟩
  generalize hW : (((w.alloc (.cells #[.int .i64 pc, .int .i64 r0, .int .i64 r1, .int .i64 r2, .int .i64 r3, .int .i64 r4, .int .i64 r5, .int .i64 r6, .int .i64 r7] 34)).alloc (.cells #[.int .i64 op, .int .i64 (ma : Int), .int .i64 (mb : Int), .int .i64 (mc : Int), .int .i64 imm] 32)).alloc (.cells #[.int .i64 0, .int .i64 0, .int .i64 0, .int .i64 0, .int .i64 0, .int .i64 0, .int .i64 0, .int .i64 0, .int .i64 0] 34)).alloc (.cells #[.int .i64 (wrap64 (pc + 1)), .int .i64 r0, .int .i64 r1, .int .i64 r2, .int .i64 r3, .int .i64 r4, .int .i64 r5, .int .i64 r6, .int .i64 r7] 34) = W1 at h1 ⊢
  have h1 := h1 W1 rfl
  have HX := Lib.hid (show ∀ W, New W1 W → (W.cell? ⟨w.heap.size + 1, 0, none⟩ = some (.int .i64 op) ∧ W.cell? ⟨w.heap.size + 1, 1, none⟩ = some (.int .i64 (ma : Int)) ∧ W.cell? ⟨w.heap.size + 1, 2, none⟩ = some (.int .i64 (mb : Int)) ∧ W.cell? ⟨w.heap.size + 1, 3, none⟩ = some (.int .i64 (mc : Int)) ∧ W.cell? ⟨w.heap.size + 1, 4, none⟩ = some (.int .i64 imm)) ∧ (W.cell? ⟨w.heap.size, 1 + ma, none⟩ = some (.int .i64 va) ∧ W.cell? ⟨w.heap.size, 1 + mb, none⟩ = some (.int .i64 vb) ∧ W.cell? ⟨w.heap.size, 1 + mc, none⟩ = some (.int .i64 vc)) ∧ W.cell? ⟨w.heap.size + 1 + 1 + 1, 1 + ma, none⟩ = some (.int .i64 na) ∧ (∀ j, W.frozen? ⟨w.heap.size + 1 + 1 + 1, j, none⟩ = false) ∧ W.cell? ⟨w.heap.size + 1 + 1 + 1, 0, none⟩ = some (.int .i64 (wrap64 (pc + 1))) from fun W h =>
    have g := h1.go h
    ⟨⟨g.b5.cell 0, g.b5.cell 1, g.b5.cell 2, g.b5.cell 3, g.b5.cell 4⟩, H4.out W g.b4, (H9.out W g.b9).1, (H9.out W g.b9).2, g.b9.cell 0⟩)
  have H1 := Lib.hid h1
  clear h1 hW
  obtain ⟨⟨i0, i1, i2, i3, i4⟩, ⟨j0, j1, j2⟩, z0, z1, z2⟩ := HX.out W1 (Kept.refl _ _)
  have hz0 : w.heap.size + 1 ≠ w.heap.size + 1 + 1 + 1 := by omega
  have hz1 : w.heap.size ≠ w.heap.size + 1 + 1 + 1 := by omega
  obtain rfl : op = 17 := HOP.out
  have hdo : ∀ V, New W1 V → Calls Try.prog 35 #[.int .i64 17, .int .i64 vb, .int .i64 vc] V fun e w' => e = .returned (.tuple #[.int .i64 (fltV 17 vb vc), .int .i64 (fltE 17)]) ∧ New W1 w' := fun V h => (Nat5.ref5_any 17 vb vc hib.1 hib.2 V).mono fun e w' g => ⟨g.1, h.trans g.2⟩
  obtain ⟨fv, hfv⟩ : ∃ fv, fltV 17 vb vc = fv := ⟨_, rfl⟩
  have hval : valX 17 vb vc = fv := (if_neg (by omega)).trans hfv
  rw [hfv] at hdo
  obtain ⟨fe, hfe⟩ : ∃ fe, fltE 17 = fe := ⟨_, rfl⟩
  rw [hfe] at hdo
  have HRES2 := HRES.out
  rw [hval] at HRES2
  have HRES := Lib.hid HRES2
  clear hfv hfe hval HRES2
  have HDO := Lib.hid hdo
  clear hdo
  go_upto_region 23 with (fail)
  have HS := Lib.hid (show ∀ V, New W1 V → (V.cell? ⟨w.heap.size + 1, 0, none⟩ = some (.int .i64 17) ∧ V.cell? ⟨w.heap.size + 1, 1, none⟩ = some (.int .i64 (ma : Int)) ∧ V.cell? ⟨w.heap.size + 1, 2, none⟩ = some (.int .i64 (mb : Int)) ∧ V.cell? ⟨w.heap.size + 1, 3, none⟩ = some (.int .i64 (mc : Int)) ∧ V.cell? ⟨w.heap.size, 1 + mb, none⟩ = some (.int .i64 vb) ∧ V.cell? ⟨w.heap.size, 1 + mc, none⟩ = some (.int .i64 vc)) from fun V h => have g := HX.out V h; ⟨g.1.1, g.1.2.1, g.1.2.2.1, g.1.2.2.2.1, g.2.1.2.1, g.2.1.2.2⟩)
  have HSB := Lib.hid (show ∀ V v, New W1 V → ((V.setCell ⟨w.heap.size + 1 + 1 + 1, 1 + ma, none⟩ v).cell? ⟨w.heap.size + 1, 0, none⟩ = some (.int .i64 17) ∧ (V.setCell ⟨w.heap.size + 1 + 1 + 1, 1 + ma, none⟩ v).cell? ⟨w.heap.size + 1, 1, none⟩ = some (.int .i64 (ma : Int)) ∧ (V.setCell ⟨w.heap.size + 1 + 1 + 1, 1 + ma, none⟩ v).cell? ⟨w.heap.size + 1, 2, none⟩ = some (.int .i64 (mb : Int)) ∧ (V.setCell ⟨w.heap.size + 1 + 1 + 1, 1 + ma, none⟩ v).cell? ⟨w.heap.size + 1, 3, none⟩ = some (.int .i64 (mc : Int)) ∧ (V.setCell ⟨w.heap.size + 1 + 1 + 1, 1 + ma, none⟩ v).cell? ⟨w.heap.size, 1 + mb, none⟩ = some (.int .i64 vb) ∧ (V.setCell ⟨w.heap.size + 1 + 1 + 1, 1 + ma, none⟩ v).cell? ⟨w.heap.size, 1 + mc, none⟩ = some (.int .i64 vc)) from fun V v h => by
    have g := HS.out V h
    refine ⟨?_, ?_, ?_, ?_, ?_, ?_⟩
    all_goals (rw [World.cell?_setCell_other _ _ _ _ (fun e => by injection e with e; omega)])
    · exact g.1
    · exact g.2.1
    · exact g.2.2.1
    · exact g.2.2.2.1
    · exact g.2.2.2.2.1
    · exact g.2.2.2.2.2)
  have HSBD := Lib.hid (show ∀ V v, New W1 V → ((V.setCell ⟨w.heap.size + 1 + 1 + 1, 1 + ma, none⟩ v).drew.cell? ⟨w.heap.size + 1, 0, none⟩ = some (.int .i64 17) ∧ (V.setCell ⟨w.heap.size + 1 + 1 + 1, 1 + ma, none⟩ v).drew.cell? ⟨w.heap.size + 1, 1, none⟩ = some (.int .i64 (ma : Int)) ∧ (V.setCell ⟨w.heap.size + 1 + 1 + 1, 1 + ma, none⟩ v).drew.cell? ⟨w.heap.size + 1, 2, none⟩ = some (.int .i64 (mb : Int)) ∧ (V.setCell ⟨w.heap.size + 1 + 1 + 1, 1 + ma, none⟩ v).drew.cell? ⟨w.heap.size + 1, 3, none⟩ = some (.int .i64 (mc : Int)) ∧ (V.setCell ⟨w.heap.size + 1 + 1 + 1, 1 + ma, none⟩ v).drew.cell? ⟨w.heap.size, 1 + mb, none⟩ = some (.int .i64 vb) ∧ (V.setCell ⟨w.heap.size + 1 + 1 + 1, 1 + ma, none⟩ v).drew.cell? ⟨w.heap.size, 1 + mc, none⟩ = some (.int .i64 vc)) from fun V v h => HSB.out V v h)
  have HZT := Lib.hid (show ∀ V, New W1 V → (V.cell? ⟨w.heap.size + 1 + 1 + 1, 1 + ma, none⟩ = some (.int .i64 na) ∧ (∀ j, V.frozen? ⟨w.heap.size + 1 + 1 + 1, j, none⟩ = false)) from fun V h => have g := HX.out V h; ⟨g.2.2.1, g.2.2.2.1⟩)
  go_region_held3 (fun V => V.cell? ⟨w.heap.size + 1, 0, none⟩ = some (.int .i64 17) ∧ V.cell? ⟨w.heap.size + 1, 1, none⟩ = some (.int .i64 (ma : Int)) ∧ V.cell? ⟨w.heap.size + 1, 2, none⟩ = some (.int .i64 (mb : Int)) ∧ V.cell? ⟨w.heap.size + 1, 3, none⟩ = some (.int .i64 (mc : Int)) ∧ V.cell? ⟨w.heap.size, 1 + mb, none⟩ = some (.int .i64 vb) ∧ V.cell? ⟨w.heap.size, 1 + mc, none⟩ = some (.int .i64 vc)) (first | ((with_reducible refine HSB.out _ _ ?_); with_reducible assumption) | (with_reducible exact HSB.out _ _ (Kept.refl _ _).drew) | (with_reducible exact HSBD.out _ _ (Kept.refl _ _)) | (with_reducible exact HSB.out _ _ (Kept.refl _ _)) | ((with_reducible refine HS.out _ ?_); with_reducible assumption) | (with_reducible exact HS.out _ (Kept.refl _ _).drew)) ((go_at_call 35; refine (HDO.out _ (by first | assumption | exact (Kept.refl _ _).drew)).mono ?_; rintro e w5 ⟨rfl, hw5⟩; obtain ⟨zz1, zz2⟩ := HZT.out _ hw5))
  all_goals
    clear HS HSB HSBD HZT zz1 zz2
    have h5 := H1.out.go hw5
    have H5 := Lib.hid h5
    clear h5 hw5
    go_upto_region 27 with (fail)
    obtain ⟨W2, hW2⟩ : ∃ W2, W2 = w5.setCell ⟨w.heap.size + 1 + 1 + 1, 1 + ma, none⟩ (.int .i64 fv) := ⟨_, rfl⟩
    have h2 : Four w W2 ⟨pc, r0, r1, r2, r3, r4, r5, r6, r7⟩ (Core.put (Core.next ⟨pc, r0, r1, r2, r3, r4, r5, r6, r7⟩) ma fv) ⟨17, ma, mb, mc, imm⟩ := by rw [hW2]; exact H5.out.put ma ka fv
    rw [← hW2]
    clear hW2
    obtain ⟨⟨p0, p1, p2, p3, p4, p5, p6, p7, p8⟩, hd⟩ : ∃ d, Core.put (Core.next ⟨pc, r0, r1, r2, r3, r4, r5, r6, r7⟩) ma fv = d := ⟨_, rfl⟩
    rw [hd] at h2
    have HD := Lib.hid hd
    clear hd i0 i1 i2 i3 i4 j0 j1 j2 z0 z1 z2
    obtain ⟨⟨d0, d1, d2, d3, d4, d5, d6, d7, d8⟩, ⟨e0, e1, e2, e3, e4, e5, e6, e7, e8⟩⟩ := (⟨Blk.core h2.b9, Blk.core h2.b8⟩ : _ ∧ _)
    have f8 := h2.b8.free
    have H2 := Lib.hid h2
    clear h2
    go_wp2_with fail
    refine reckons_end (d := ⟨p0, p1, p2, p3, p4, p5, p6, p7, p8⟩) H2.out.new (by omega) H2.out.b8 rfl rfl fun h => ⟨?_, h⟩
    rw [← HRES.out, ← HD.out]
    simp only [(by decide : ¬ ((17 : Int) = 1)), (by decide : ¬ ((17 : Int) = 2)), (by decide : ¬ ((17 : Int) = 32)), (by decide : ¬ ((17 : Int) = 33)), (by decide : ¬ ((17 : Int) = 22)), (by decide : ¬ ((17 : Int) = 23)), if_false]
    rw [put_next]
    rfl
set_option maxHeartbeats 4000000 in
set_option maxRecDepth 100000 in
theorem reckons_18 (c : Core) (x : Ins) (tick self : Int) (w : World) (hop : x.op = 18) (ha : 0 ≤ x.a ∧ x.a < 8) (hb : 0 ≤ x.b ∧ x.b < 8) (hc : 0 ≤ x.c ∧ x.c < 8) (hin : InC c) :
    Calls Try.prog 24 #[coreV c, agg x, .int .i64 tick, .int .i64 self] w fun e w' => e = .returned (coreV (reckon (valX x.op (c.get x.b) (c.get x.c)) x c tick self)) ∧ New w w' := by
  obtain ⟨op, a, b, cc, imm⟩ := x
  obtain ⟨ma, rfl, ka⟩ : ∃ m : Nat, a = (m : Int) ∧ m < 8 := ⟨a.toNat, by simp only at ha; omega, by simp only at ha; omega⟩
  obtain ⟨mb, rfl, kb⟩ : ∃ m : Nat, b = (m : Int) ∧ m < 8 := ⟨b.toNat, by simp only at hb; omega, by simp only at hb; omega⟩
  obtain ⟨mc, rfl, kc⟩ : ∃ m : Nat, cc = (m : Int) ∧ m < 8 := ⟨cc.toNat, by simp only at hc; omega, by simp only at hc; omega⟩
  clear ha hb hc
  simp only at hop
  have HOP := Lib.hid hop
  clear hop
  have hib := hin mb
  have hic := hin mc
  have gb := coreC_get c mb kb
  have gc := coreC_get c mc kc
  have ga := coreC_get c ma ka
  have ja := coreC_get c.next ma ka
  generalize hvb : c.get mb = vb at *
  generalize hvc : c.get mc = vc at *
  generalize hva : c.get ma = va at *
  generalize c.next.get ma = na at *
  obtain ⟨res, hres⟩ : ∃ res, reckon (valX op vb vc) ⟨op, ma, mb, mc, imm⟩ c tick self = res := ⟨_, rfl⟩
  show Calls _ _ _ _ fun e w' => e = .returned (coreV (reckon (valX op vb vc) ⟨op, ma, mb, mc, imm⟩ c tick self)) ∧ New w w'
  rw [hres]
  have HRES := Lib.hid (show (if op = 1 then (c.put ma imm).next else if op = 2 then (c.put ma vb).next else if op = 32 then (c.put ma tick).next else if op = 33 then (c.put ma self).next else if op = 22 then { c with pc := imm } else if op = 23 then (if va = 0 then c.next else { c with pc := imm }) else (c.put ma (valX op vb vc)).next) = res from by
    rw [← hres, ← hvb, ← hva]
    unfold reckon
    rfl)
  clear hres
  have HVB := Lib.hid hvb
  have HVC := Lib.hid hvc
  have HVA := Lib.hid hva
  clear hvb hvc hva
  have h4 : ∀ W, Blk W w.heap.size 34 (coreC c) → W.cell? ⟨w.heap.size, 1 + ma, none⟩ = some (.int .i64 va) ∧ W.cell? ⟨w.heap.size, 1 + mb, none⟩ = some (.int .i64 vb) ∧ W.cell? ⟨w.heap.size, 1 + mc, none⟩ = some (.int .i64 vc) := fun W h => ⟨(h.cell _).trans ga, (h.cell _).trans gb, (h.cell _).trans gc⟩
  have h9 : ∀ W, Blk W (w.heap.size + 1 + 1 + 1) 34 (coreC c.next) → W.cell? ⟨w.heap.size + 1 + 1 + 1, 1 + ma, none⟩ = some (.int .i64 na) ∧ ∀ j, W.frozen? ⟨w.heap.size + 1 + 1 + 1, j, none⟩ = false := fun W h => ⟨(h.cell _).trans ja, h.free⟩
  obtain ⟨pc, r0, r1, r2, r3, r4, r5, r6, r7⟩ := c
  clear ga gb gc ja
  have H4 := Lib.hid h4
  have H9 := Lib.hid h9
  have HIN := Lib.hid hin
  clear h4 h9 hin
  unfold coreV coreC agg
  simp only
  have za1 : (0 : Int) ≤ (ma : Int) := by omega
  have za2 : (ma : Int) < 8 := by omega
  have zb1 : (0 : Int) ≤ (mb : Int) := by omega
  have zb2 : (mb : Int) < 8 := by omega
  have zc1 : (0 : Int) ≤ (mc : Int) := by omega
  have zc2 : (mc : Int) < 8 := by omega
  go_enter Try.func24, Try.ntmps24
  go_upto_region 3 with (fail)
  have h1 : ∀ W, W = (((w.alloc (.cells #[.int .i64 pc, .int .i64 r0, .int .i64 r1, .int .i64 r2, .int .i64 r3, .int .i64 r4, .int .i64 r5, .int .i64 r6, .int .i64 r7] 34)).alloc (.cells #[.int .i64 op, .int .i64 (ma : Int), .int .i64 (mb : Int), .int .i64 (mc : Int), .int .i64 imm] 32)).alloc (.cells #[.int .i64 0, .int .i64 0, .int .i64 0, .int .i64 0, .int .i64 0, .int .i64 0, .int .i64 0, .int .i64 0, .int .i64 0] 34)).alloc (.cells #[.int .i64 (wrap64 (pc + 1)), .int .i64 r0, .int .i64 r1, .int .i64 r2, .int .i64 r3, .int .i64 r4, .int .i64 r5, .int .i64 r6, .int .i64 r7] 34) → Four w W ⟨pc, r0, r1, r2, r3, r4, r5, r6, r7⟩ (Core.next ⟨pc, r0, r1, r2, r3, r4, r5, r6, r7⟩) ⟨op, ma, mb, mc, imm⟩ := by
    rintro W rfl
    exact ⟨((((Kept.refl _ _).alloc _).alloc _).alloc _).alloc _, (((Blk.made _ _ _).alloc _).alloc _).alloc _, ((Blk.made_at _ _ _ _ (size1 _ _)).alloc _).alloc _, (Blk.made_at _ _ _ _ (by rw [← size1, ← size1])).alloc _, Blk.made_at _ _ _ _ (by rw [← size1, ← size1, ← size1])⟩
  generalize hW : (((w.alloc (.cells #[.int .i64 pc, .int .i64 r0, .int .i64 r1, .int .i64 r2, .int .i64 r3, .int .i64 r4, .int .i64 r5, .int .i64 r6, .int .i64 r7] 34)).alloc (.cells #[.int .i64 op, .int .i64 (ma : Int), .int .i64 (mb : Int), .int .i64 (mc : Int), .int .i64 imm] 32)).alloc (.cells #[.int .i64 0, .int .i64 0, .int .i64 0, .int .i64 0, .int .i64 0, .int .i64 0, .int .i64 0, .int .i64 0, .int .i64 0] 34)).alloc (.cells #[.int .i64 (wrap64 (pc + 1)), .int .i64 r0, .int .i64 r1, .int .i64 r2, .int .i64 r3, .int .i64 r4, .int .i64 r5, .int .i64 r6, .int .i64 r7] 34) = W1 at h1 ⊢
  have h1 := h1 W1 rfl
  have HX := Lib.hid (show ∀ W, New W1 W → (W.cell? ⟨w.heap.size + 1, 0, none⟩ = some (.int .i64 op) ∧ W.cell? ⟨w.heap.size + 1, 1, none⟩ = some (.int .i64 (ma : Int)) ∧ W.cell? ⟨w.heap.size + 1, 2, none⟩ = some (.int .i64 (mb : Int)) ∧ W.cell? ⟨w.heap.size + 1, 3, none⟩ = some (.int .i64 (mc : Int)) ∧ W.cell? ⟨w.heap.size + 1, 4, none⟩ = some (.int .i64 imm)) ∧ (W.cell? ⟨w.heap.size, 1 + ma, none⟩ = some (.int .i64 va) ∧ W.cell? ⟨w.heap.size, 1 + mb, none⟩ = some (.int .i64 vb) ∧ W.cell? ⟨w.heap.size, 1 + mc, none⟩ = some (.int .i64 vc)) ∧ W.cell? ⟨w.heap.size + 1 + 1 + 1, 1 + ma, none⟩ = some (.int .i64 na) ∧ (∀ j, W.frozen? ⟨w.heap.size + 1 + 1 + 1, j, none⟩ = false) ∧ W.cell? ⟨w.heap.size + 1 + 1 + 1, 0, none⟩ = some (.int .i64 (wrap64 (pc + 1))) from fun W h =>
    have g := h1.go h
    ⟨⟨g.b5.cell 0, g.b5.cell 1, g.b5.cell 2, g.b5.cell 3, g.b5.cell 4⟩, H4.out W g.b4, (H9.out W g.b9).1, (H9.out W g.b9).2, g.b9.cell 0⟩)
  have H1 := Lib.hid h1
  clear h1 hW
  obtain ⟨⟨i0, i1, i2, i3, i4⟩, ⟨j0, j1, j2⟩, z0, z1, z2⟩ := HX.out W1 (Kept.refl _ _)
  have hz0 : w.heap.size + 1 ≠ w.heap.size + 1 + 1 + 1 := by omega
  have hz1 : w.heap.size ≠ w.heap.size + 1 + 1 + 1 := by omega
  obtain rfl : op = 18 := HOP.out
  have hdo : ∀ V, New W1 V → Calls Try.prog 35 #[.int .i64 18, .int .i64 vb, .int .i64 vc] V fun e w' => e = .returned (.tuple #[.int .i64 (fltV 18 vb vc), .int .i64 (fltE 18)]) ∧ New W1 w' := fun V h => (Nat5.ref5_any 18 vb vc hib.1 hib.2 V).mono fun e w' g => ⟨g.1, h.trans g.2⟩
  obtain ⟨fv, hfv⟩ : ∃ fv, fltV 18 vb vc = fv := ⟨_, rfl⟩
  have hval : valX 18 vb vc = fv := (if_neg (by omega)).trans hfv
  rw [hfv] at hdo
  obtain ⟨fe, hfe⟩ : ∃ fe, fltE 18 = fe := ⟨_, rfl⟩
  rw [hfe] at hdo
  have HRES2 := HRES.out
  rw [hval] at HRES2
  have HRES := Lib.hid HRES2
  clear hfv hfe hval HRES2
  have HDO := Lib.hid hdo
  clear hdo
  go_upto_region 23 with (fail)
  have HS := Lib.hid (show ∀ V, New W1 V → (V.cell? ⟨w.heap.size + 1, 0, none⟩ = some (.int .i64 18) ∧ V.cell? ⟨w.heap.size + 1, 1, none⟩ = some (.int .i64 (ma : Int)) ∧ V.cell? ⟨w.heap.size + 1, 2, none⟩ = some (.int .i64 (mb : Int)) ∧ V.cell? ⟨w.heap.size + 1, 3, none⟩ = some (.int .i64 (mc : Int)) ∧ V.cell? ⟨w.heap.size, 1 + mb, none⟩ = some (.int .i64 vb) ∧ V.cell? ⟨w.heap.size, 1 + mc, none⟩ = some (.int .i64 vc)) from fun V h => have g := HX.out V h; ⟨g.1.1, g.1.2.1, g.1.2.2.1, g.1.2.2.2.1, g.2.1.2.1, g.2.1.2.2⟩)
  have HSB := Lib.hid (show ∀ V v, New W1 V → ((V.setCell ⟨w.heap.size + 1 + 1 + 1, 1 + ma, none⟩ v).cell? ⟨w.heap.size + 1, 0, none⟩ = some (.int .i64 18) ∧ (V.setCell ⟨w.heap.size + 1 + 1 + 1, 1 + ma, none⟩ v).cell? ⟨w.heap.size + 1, 1, none⟩ = some (.int .i64 (ma : Int)) ∧ (V.setCell ⟨w.heap.size + 1 + 1 + 1, 1 + ma, none⟩ v).cell? ⟨w.heap.size + 1, 2, none⟩ = some (.int .i64 (mb : Int)) ∧ (V.setCell ⟨w.heap.size + 1 + 1 + 1, 1 + ma, none⟩ v).cell? ⟨w.heap.size + 1, 3, none⟩ = some (.int .i64 (mc : Int)) ∧ (V.setCell ⟨w.heap.size + 1 + 1 + 1, 1 + ma, none⟩ v).cell? ⟨w.heap.size, 1 + mb, none⟩ = some (.int .i64 vb) ∧ (V.setCell ⟨w.heap.size + 1 + 1 + 1, 1 + ma, none⟩ v).cell? ⟨w.heap.size, 1 + mc, none⟩ = some (.int .i64 vc)) from fun V v h => by
    have g := HS.out V h
    refine ⟨?_, ?_, ?_, ?_, ?_, ?_⟩
    all_goals (rw [World.cell?_setCell_other _ _ _ _ (fun e => by injection e with e; omega)])
    · exact g.1
    · exact g.2.1
    · exact g.2.2.1
    · exact g.2.2.2.1
    · exact g.2.2.2.2.1
    · exact g.2.2.2.2.2)
  have HSBD := Lib.hid (show ∀ V v, New W1 V → ((V.setCell ⟨w.heap.size + 1 + 1 + 1, 1 + ma, none⟩ v).drew.cell? ⟨w.heap.size + 1, 0, none⟩ = some (.int .i64 18) ∧ (V.setCell ⟨w.heap.size + 1 + 1 + 1, 1 + ma, none⟩ v).drew.cell? ⟨w.heap.size + 1, 1, none⟩ = some (.int .i64 (ma : Int)) ∧ (V.setCell ⟨w.heap.size + 1 + 1 + 1, 1 + ma, none⟩ v).drew.cell? ⟨w.heap.size + 1, 2, none⟩ = some (.int .i64 (mb : Int)) ∧ (V.setCell ⟨w.heap.size + 1 + 1 + 1, 1 + ma, none⟩ v).drew.cell? ⟨w.heap.size + 1, 3, none⟩ = some (.int .i64 (mc : Int)) ∧ (V.setCell ⟨w.heap.size + 1 + 1 + 1, 1 + ma, none⟩ v).drew.cell? ⟨w.heap.size, 1 + mb, none⟩ = some (.int .i64 vb) ∧ (V.setCell ⟨w.heap.size + 1 + 1 + 1, 1 + ma, none⟩ v).drew.cell? ⟨w.heap.size, 1 + mc, none⟩ = some (.int .i64 vc)) from fun V v h => HSB.out V v h)
  have HZT := Lib.hid (show ∀ V, New W1 V → (V.cell? ⟨w.heap.size + 1 + 1 + 1, 1 + ma, none⟩ = some (.int .i64 na) ∧ (∀ j, V.frozen? ⟨w.heap.size + 1 + 1 + 1, j, none⟩ = false)) from fun V h => have g := HX.out V h; ⟨g.2.2.1, g.2.2.2.1⟩)
  go_region_held3 (fun V => V.cell? ⟨w.heap.size + 1, 0, none⟩ = some (.int .i64 18) ∧ V.cell? ⟨w.heap.size + 1, 1, none⟩ = some (.int .i64 (ma : Int)) ∧ V.cell? ⟨w.heap.size + 1, 2, none⟩ = some (.int .i64 (mb : Int)) ∧ V.cell? ⟨w.heap.size + 1, 3, none⟩ = some (.int .i64 (mc : Int)) ∧ V.cell? ⟨w.heap.size, 1 + mb, none⟩ = some (.int .i64 vb) ∧ V.cell? ⟨w.heap.size, 1 + mc, none⟩ = some (.int .i64 vc)) (first | ((with_reducible refine HSB.out _ _ ?_); with_reducible assumption) | (with_reducible exact HSB.out _ _ (Kept.refl _ _).drew) | (with_reducible exact HSBD.out _ _ (Kept.refl _ _)) | (with_reducible exact HSB.out _ _ (Kept.refl _ _)) | ((with_reducible refine HS.out _ ?_); with_reducible assumption) | (with_reducible exact HS.out _ (Kept.refl _ _).drew)) ((go_at_call 35; refine (HDO.out _ (by first | assumption | exact (Kept.refl _ _).drew)).mono ?_; rintro e w5 ⟨rfl, hw5⟩; obtain ⟨zz1, zz2⟩ := HZT.out _ hw5))
  all_goals
    clear HS HSB HSBD HZT zz1 zz2
    have h5 := H1.out.go hw5
    have H5 := Lib.hid h5
    clear h5 hw5
    go_upto_region 27 with (fail)
    obtain ⟨W2, hW2⟩ : ∃ W2, W2 = w5.setCell ⟨w.heap.size + 1 + 1 + 1, 1 + ma, none⟩ (.int .i64 fv) := ⟨_, rfl⟩
    have h2 : Four w W2 ⟨pc, r0, r1, r2, r3, r4, r5, r6, r7⟩ (Core.put (Core.next ⟨pc, r0, r1, r2, r3, r4, r5, r6, r7⟩) ma fv) ⟨18, ma, mb, mc, imm⟩ := by rw [hW2]; exact H5.out.put ma ka fv
    rw [← hW2]
    clear hW2
    obtain ⟨⟨p0, p1, p2, p3, p4, p5, p6, p7, p8⟩, hd⟩ : ∃ d, Core.put (Core.next ⟨pc, r0, r1, r2, r3, r4, r5, r6, r7⟩) ma fv = d := ⟨_, rfl⟩
    rw [hd] at h2
    have HD := Lib.hid hd
    clear hd i0 i1 i2 i3 i4 j0 j1 j2 z0 z1 z2
    obtain ⟨⟨d0, d1, d2, d3, d4, d5, d6, d7, d8⟩, ⟨e0, e1, e2, e3, e4, e5, e6, e7, e8⟩⟩ := (⟨Blk.core h2.b9, Blk.core h2.b8⟩ : _ ∧ _)
    have f8 := h2.b8.free
    have H2 := Lib.hid h2
    clear h2
    go_wp2_with fail
    refine reckons_end (d := ⟨p0, p1, p2, p3, p4, p5, p6, p7, p8⟩) H2.out.new (by omega) H2.out.b8 rfl rfl fun h => ⟨?_, h⟩
    rw [← HRES.out, ← HD.out]
    simp only [(by decide : ¬ ((18 : Int) = 1)), (by decide : ¬ ((18 : Int) = 2)), (by decide : ¬ ((18 : Int) = 32)), (by decide : ¬ ((18 : Int) = 33)), (by decide : ¬ ((18 : Int) = 22)), (by decide : ¬ ((18 : Int) = 23)), if_false]
    rw [put_next]
    rfl
end Go.Proofs.Ytilioiebecpknaa.CpuR
