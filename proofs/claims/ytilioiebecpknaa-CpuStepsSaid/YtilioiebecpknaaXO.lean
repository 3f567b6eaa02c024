/- The walks of Told and Took, the program's and the reference's (layer 13). -/
import Derived.Test.YtilioiebecpknaaCpuH
import Derived.Test.YtilioiebecpknaaCpuXh
import Derived.Test.YtilioiebecpknaaAA
namespace Go.Proofs.Ytilioiebecpknaa.CpuR
open Go.RowKit Go.Fb Go.BytesP Go.CodeP Go.CpuP _root_.Go.Proofs.Ytilioiebecpknaa.Code _root_.Go.Proofs.Ytilioiebecpknaa.Cpu
set_option linter.unusedVariables false
def toldC (c : Core) (l : List Ins) (v : Int) : Core := if (atPC c l).2 = true then (c.put (atPC c l).1.a v).next else c.next
def tookC (c : Core) (l : List Ins) (v u : Int) : Core := if (atPC c l).2 = true then ((c.put (atPC c l).1.a v).put (atPC c l).1.b u).next else c.next
/-- A core in its box, and the result's cells. -/
structure Two (T : TypeId) (w W : World) (c : Core) : Prop where
  new : New w W
  b0 : Blk W w.heap.size T (coreC c)
  b1 : Blk W (w.heap.size + 1) T (coreC ⟨0, 0, 0, 0, 0, 0, 0, 0, 0⟩)
theorem Two.go {T : TypeId} {w W W' : World} {c : Core} (h : Two T w W c) (hk : New W W') : Two T w W' c := ⟨h.new.trans hk, h.b0.kept hk id, h.b1.kept hk id⟩
theorem Two.made (T : TypeId) (w : World) (c : Core) : Two T w ((w.alloc (.cells (coreC c) T)).alloc (.cells (coreC ⟨0, 0, 0, 0, 0, 0, 0, 0, 0⟩) T)) c :=
  ⟨((Kept.refl _ _).alloc _).alloc _, (Blk.made _ _ _).alloc _, Blk.made_at _ _ _ _ (size1 _ _)⟩
theorem Two.put {T : TypeId} {w W W' : World} {c c' : Core} (h : Two T w W c) (hk : Kept (fun k => k = w.heap.size) W W') (hb : Blk W' w.heap.size T (coreC c')) : Two T w W' c' :=
  ⟨h.new.step hk fun i hi e => absurd e (by omega), hb, h.b1.kept hk (by omega)⟩
theorem run_told {tmps : Array Value} {W : World} {x : Nat} {d : Core} (h8 : tmps.getD 6 undef = .pointer (some ⟨x, 0, none⟩)) (b1 : Blk W x 25 (coreC d)) :
    (results Try.f13 tmps).run Try.prog W = .ok (coreV d) W := by
  obtain ⟨d0, d1, d2, d3, d4, d5, d6, d7, d8⟩ := Blk.core b1
  rw [Array.getD_eq_getD_getElem?] at h8
  simp [results, Try.results13, go_sem, h8, d0, d1, d2, d3, d4, d5, d6, d7, d8, coreV, coreC]
theorem end_told {w W : World} {c d : Core} {a : Act} {R : Ending → World → Prop} (hb : Two 25 w W c) (h8 : a.tmps.getD 6 undef = .pointer (some ⟨w.heap.size + 1, 0, none⟩)) (hd : a.defers = [])
    (h : New w (laidC W (w.heap.size + 1) d) → R (.returned (coreV d)) (laidC W (w.heap.size + 1) d)) : bodyPost Try.prog Try.f13 R .ret a (laidC W (w.heap.size + 1) d) :=
  bodyPost_ret (run_told h8 (laidC_blk hb.b1)) hd (h (laidC_kept hb.new (by omega)))
set_option maxHeartbeats 4000000 in
set_option maxRecDepth 100000 in
theorem told_any (c : Core) (A : Option Addr) (n k : Nat) (l : List Ins) (v : Int) (w : World) (hl : SliceOf repIns w w.heap.size A n k l) :
    Calls Try.prog 13 #[coreV c, .slice A n k, .int .i64 v] w fun e w' => e = .returned (coreV (toldC c l v)) ∧ New w w' := by
  have hat := fun W (hW : New w W) => at_any c A n k l W (news hl hW)
  obtain ⟨res, hres⟩ : ∃ res, toldC c l v = res := ⟨_, rfl⟩
  rw [hres]
  unfold toldC at hres
  generalize atPC c l = q at *
  obtain ⟨⟨op, a, b, cc, imm⟩, is⟩ := q
  simp only at hres hat
  have hbase : Two 25 w ((w.alloc (.cells (coreC c) 25)).alloc (.cells (coreC ⟨0, 0, 0, 0, 0, 0, 0, 0, 0⟩) 25)) c := Two.made _ _ _
  obtain ⟨pc, r0, r1, r2, r3, r4, r5, r6, r7⟩ := c
  unfold coreV coreC agg at *
  have HL := Lib.hid hl
  have HAT := Lib.hid hat
  have HBASE := Lib.hid hbase
  have HRES := Lib.hid hres
  clear hl hat hbase hres
  go_enter Try.func13, Try.ntmps13
  go_wp2_with fail
  generalize hW0 : (w.alloc (.cells #[.int .i64 pc, .int .i64 r0, .int .i64 r1, .int .i64 r2, .int .i64 r3, .int .i64 r4, .int .i64 r5, .int .i64 r6, .int .i64 r7] 25)).alloc (.cells #[.int .i64 0, .int .i64 0, .int .i64 0, .int .i64 0, .int .i64 0, .int .i64 0, .int .i64 0, .int .i64 0, .int .i64 0] 25) = W0 at *
  refine (HAT.out W0 HBASE.out.new).mono ?_
  rintro e w1 ⟨rfl, hw1⟩
  have hB : Two 25 w (w1.alloc (.cells #[.int .i64 op, .int .i64 a, .int .i64 b, .int .i64 cc, .int .i64 imm] 32)) ⟨pc, r0, r1, r2, r3, r4, r5, r6, r7⟩ := HBASE.out.go (hw1.alloc _)
  have bi := Blk.made w1 32 #[.int .i64 op, .int .i64 a, .int .i64 b, .int .i64 cc, .int .i64 imm]
  have hz1 : w.heap.size + 1 < w1.heap.size := by
    have := (HBASE.out.go hw1).b1.lt
    exact this
  have HW1 := Lib.hid hw1
  clear hw1
  go_upto_region 2 with (fail)
  generalize w1.alloc (.cells #[.int .i64 op, .int .i64 a, .int .i64 b, .int .i64 cc, .int .i64 imm] 32) = W at *
  generalize w1.heap.size = p at *
  cases is
  · have hr : res = Core.next ⟨pc, r0, r1, r2, r3, r4, r5, r6, r7⟩ := HRES.out.symm.trans (if_neg (by simp))
    subst hr
    have HB := Lib.hid hB
    clear bi hB HRES
    obtain ⟨d0, d1, d2, d3, d4, d5, d6, d7, d8⟩ := Blk.core HB.out.b0
    go_wp2_with fail
    have hnx := next_any ⟨pc, r0, r1, r2, r3, r4, r5, r6, r7⟩ W
    unfold coreV coreC Core.next at hnx
    simp only at hnx
    refine hnx.mono ?_
    rintro e w6 ⟨rfl, hw6⟩
    have hB6 := HB.out.go hw6
    obtain ⟨e0, e1, e2, e3, e4, e5, e6, e7, e8⟩ := Blk.core hB6.b1
    have f1 := hB6.b1.free
    have HB6 := Lib.hid hB6
    clear hB6 hnx hw6 d0 d1 d2 d3 d4 d5 d6 d7 d8
    go_wp2_with fail
    refine end_told (d := ⟨wrap64 (pc + 1), r0, r1, r2, r3, r4, r5, r6, r7⟩) HB6.out rfl rfl fun h => ⟨?_, h⟩
    rfl
  · have hr := HRES.out.symm.trans (if_pos rfl)
    have i1 : W.cell? ⟨p, 1, none⟩ = some (.int .i64 a) := bi.cell 1
    have hput := put_any ⟨pc, r0, r1, r2, r3, r4, r5, r6, r7⟩ w.heap.size a v W hB.b0
    have HR := Lib.hid hr
    have BI := Lib.hid bi
    have HBB := Lib.hid hB
    have HPUT := Lib.hid hput
    clear hr bi hB hput
    go_wp2_with fail
    refine HPUT.out.mono ?_
    rintro e w2 ⟨rfl, hk2, hb2⟩
    have hB2 := HBB.out.put hk2 hb2
    obtain ⟨⟨p0, p1, p2, p3, p4, p5, p6, p7, p8⟩, hd⟩ : ∃ d, Core.put ⟨pc, r0, r1, r2, r3, r4, r5, r6, r7⟩ a v = d := ⟨_, rfl⟩
    rw [hd] at hB2
    have HB := Lib.hid hB2
    have HD := Lib.hid hd
    clear hd hB2 hk2 hb2 i1
    obtain ⟨d0, d1, d2, d3, d4, d5, d6, d7, d8⟩ := Blk.core HB.out.b0
    go_wp2_with fail
    have hnx := next_any ⟨p0, p1, p2, p3, p4, p5, p6, p7, p8⟩ w2
    unfold coreV coreC Core.next at hnx
    simp only at hnx
    refine hnx.mono ?_
    rintro e w6 ⟨rfl, hw6⟩
    have hB6 := HB.out.go hw6
    obtain ⟨e0, e1, e2, e3, e4, e5, e6, e7, e8⟩ := Blk.core hB6.b1
    have f1 := hB6.b1.free
    have HB6 := Lib.hid hB6
    clear hB6 hnx hw6 d0 d1 d2 d3 d4 d5 d6 d7 d8
    go_wp2_with fail
    refine end_told (d := ⟨wrap64 (p0 + 1), p1, p2, p3, p4, p5, p6, p7, p8⟩) HB6.out rfl rfl fun h => ⟨?_, h⟩
    rw [HR.out, HD.out]
    rfl
theorem run_took {tmps : Array Value} {W : World} {x : Nat} {d : Core} (h8 : tmps.getD 8 undef = .pointer (some ⟨x, 0, none⟩)) (b1 : Blk W x 25 (coreC d)) :
    (results Try.f14 tmps).run Try.prog W = .ok (coreV d) W := by
  obtain ⟨d0, d1, d2, d3, d4, d5, d6, d7, d8⟩ := Blk.core b1
  rw [Array.getD_eq_getD_getElem?] at h8
  simp [results, Try.results14, go_sem, h8, d0, d1, d2, d3, d4, d5, d6, d7, d8, coreV, coreC]
theorem end_took {w W : World} {c d : Core} {a : Act} {R : Ending → World → Prop} (hb : Two 25 w W c) (h8 : a.tmps.getD 8 undef = .pointer (some ⟨w.heap.size + 1, 0, none⟩)) (hd : a.defers = [])
    (h : New w (laidC W (w.heap.size + 1) d) → R (.returned (coreV d)) (laidC W (w.heap.size + 1) d)) : bodyPost Try.prog Try.f14 R .ret a (laidC W (w.heap.size + 1) d) :=
  bodyPost_ret (run_took h8 (laidC_blk hb.b1)) hd (h (laidC_kept hb.new (by omega)))
set_option maxHeartbeats 4000000 in
set_option maxRecDepth 100000 in
theorem took_any (c : Core) (A : Option Addr) (n k : Nat) (l : List Ins) (v u : Int) (w : World) (hl : SliceOf repIns w w.heap.size A n k l) :
    Calls Try.prog 14 #[coreV c, .slice A n k, .int .i64 v, .int .i64 u] w fun e w' => e = .returned (coreV (tookC c l v u)) ∧ New w w' := by
  have hat := fun W (hW : New w W) => at_any c A n k l W (news hl hW)
  obtain ⟨res, hres⟩ : ∃ res, tookC c l v u = res := ⟨_, rfl⟩
  rw [hres]
  unfold tookC at hres
  generalize atPC c l = q at *
  obtain ⟨⟨op, a, b, cc, imm⟩, is⟩ := q
  simp only at hres hat
  have hbase : Two 25 w ((w.alloc (.cells (coreC c) 25)).alloc (.cells (coreC ⟨0, 0, 0, 0, 0, 0, 0, 0, 0⟩) 25)) c := Two.made _ _ _
  obtain ⟨pc, r0, r1, r2, r3, r4, r5, r6, r7⟩ := c
  unfold coreV coreC agg at *
  have HL := Lib.hid hl
  have HAT := Lib.hid hat
  have HBASE := Lib.hid hbase
  have HRES := Lib.hid hres
  clear hl hat hbase hres
  go_enter Try.func14, Try.ntmps14
  go_wp2_with fail
  generalize hW0 : (w.alloc (.cells #[.int .i64 pc, .int .i64 r0, .int .i64 r1, .int .i64 r2, .int .i64 r3, .int .i64 r4, .int .i64 r5, .int .i64 r6, .int .i64 r7] 25)).alloc (.cells #[.int .i64 0, .int .i64 0, .int .i64 0, .int .i64 0, .int .i64 0, .int .i64 0, .int .i64 0, .int .i64 0, .int .i64 0] 25) = W0 at *
  refine (HAT.out W0 HBASE.out.new).mono ?_
  rintro e w1 ⟨rfl, hw1⟩
  have hB : Two 25 w (w1.alloc (.cells #[.int .i64 op, .int .i64 a, .int .i64 b, .int .i64 cc, .int .i64 imm] 32)) ⟨pc, r0, r1, r2, r3, r4, r5, r6, r7⟩ := HBASE.out.go (hw1.alloc _)
  have bi := Blk.made w1 32 #[.int .i64 op, .int .i64 a, .int .i64 b, .int .i64 cc, .int .i64 imm]
  have hz1 : w.heap.size + 1 < w1.heap.size := by
    have := (HBASE.out.go hw1).b1.lt
    exact this
  have HW1 := Lib.hid hw1
  clear hw1
  go_upto_region 2 with (fail)
  generalize w1.alloc (.cells #[.int .i64 op, .int .i64 a, .int .i64 b, .int .i64 cc, .int .i64 imm] 32) = W at *
  generalize w1.heap.size = p at *
  cases is
  · have hr : res = Core.next ⟨pc, r0, r1, r2, r3, r4, r5, r6, r7⟩ := HRES.out.symm.trans (if_neg (by simp))
    subst hr
    have HB := Lib.hid hB
    clear bi hB HRES
    obtain ⟨d0, d1, d2, d3, d4, d5, d6, d7, d8⟩ := Blk.core HB.out.b0
    go_wp2_with fail
    have hnx := next_any ⟨pc, r0, r1, r2, r3, r4, r5, r6, r7⟩ W
    unfold coreV coreC Core.next at hnx
    simp only at hnx
    refine hnx.mono ?_
    rintro e w6 ⟨rfl, hw6⟩
    have hB6 := HB.out.go hw6
    obtain ⟨e0, e1, e2, e3, e4, e5, e6, e7, e8⟩ := Blk.core hB6.b1
    have f1 := hB6.b1.free
    have HB6 := Lib.hid hB6
    clear hB6 hnx hw6 d0 d1 d2 d3 d4 d5 d6 d7 d8
    go_wp2_with fail
    refine end_took (d := ⟨wrap64 (pc + 1), r0, r1, r2, r3, r4, r5, r6, r7⟩) HB6.out rfl rfl fun h => ⟨?_, h⟩
    rfl
  · have hr := HRES.out.symm.trans (if_pos rfl)
    have i1 : W.cell? ⟨p, 1, none⟩ = some (.int .i64 a) := bi.cell 1
    have hput := put_any ⟨pc, r0, r1, r2, r3, r4, r5, r6, r7⟩ w.heap.size a v W hB.b0
    have HR := Lib.hid hr
    have BI := Lib.hid bi
    have HBB := Lib.hid hB
    have HPUT := Lib.hid hput
    clear hr bi hB hput
    go_wp2_with fail
    refine HPUT.out.mono ?_
    rintro e w2 ⟨rfl, hk2, hb2⟩
    have hB2 := HBB.out.put hk2 hb2
    have bi2 := BI.out.kept hk2 (by omega)
    have i2 : w2.cell? ⟨p, 2, none⟩ = some (.int .i64 b) := bi2.cell 2
    have hput2 := put_any _ w.heap.size b u w2 hB2.b0
    clear i1 hk2 hb2 bi2
    have HBB2 := Lib.hid hB2
    have HPUT2 := Lib.hid hput2
    clear hB2 hput2
    go_wp2_with fail
    refine HPUT2.out.mono ?_
    rintro e w3 ⟨rfl, hk3, hb3⟩
    have hB3 := HBB2.out.put hk3 hb3
    obtain ⟨⟨p0, p1, p2, p3, p4, p5, p6, p7, p8⟩, hd⟩ : ∃ d, Core.put (Core.put ⟨pc, r0, r1, r2, r3, r4, r5, r6, r7⟩ a v) b u = d := ⟨_, rfl⟩
    rw [hd] at hB3
    have HB := Lib.hid hB3
    have HD := Lib.hid hd
    clear hd hB3 hk3 hb3 i2
    obtain ⟨d0, d1, d2, d3, d4, d5, d6, d7, d8⟩ := Blk.core HB.out.b0
    go_wp2_with fail
    have hnx := next_any ⟨p0, p1, p2, p3, p4, p5, p6, p7, p8⟩ w3
    unfold coreV coreC Core.next at hnx
    simp only at hnx
    refine hnx.mono ?_
    rintro e w6 ⟨rfl, hw6⟩
    have hB6 := HB.out.go hw6
    obtain ⟨e0, e1, e2, e3, e4, e5, e6, e7, e8⟩ := Blk.core hB6.b1
    have f1 := hB6.b1.free
    have HB6 := Lib.hid hB6
    clear hB6 hnx hw6 d0 d1 d2 d3 d4 d5 d6 d7 d8
    go_wp2_with fail
    refine end_took (d := ⟨wrap64 (p0 + 1), p1, p2, p3, p4, p5, p6, p7, p8⟩) HB6.out rfl rfl fun h => ⟨?_, h⟩
    rw [HR.out, HD.out]
    rfl
theorem run_rtold {tmps : Array Value} {W : World} {x : Nat} {d : Core} (h8 : tmps.getD 6 undef = .pointer (some ⟨x, 0, none⟩)) (b1 : Blk W x 34 (coreC d)) :
    (results Try.f10 tmps).run Try.prog W = .ok (coreV d) W := by
  obtain ⟨d0, d1, d2, d3, d4, d5, d6, d7, d8⟩ := Blk.core b1
  rw [Array.getD_eq_getD_getElem?] at h8
  simp [results, Try.results10, go_sem, h8, d0, d1, d2, d3, d4, d5, d6, d7, d8, coreV, coreC]
theorem end_rtold {w W : World} {c d : Core} {a : Act} {R : Ending → World → Prop} (hb : Two 34 w W c) (h8 : a.tmps.getD 6 undef = .pointer (some ⟨w.heap.size + 1, 0, none⟩)) (hd : a.defers = [])
    (h : New w (laidC W (w.heap.size + 1) d) → R (.returned (coreV d)) (laidC W (w.heap.size + 1) d)) : bodyPost Try.prog Try.f10 R .ret a (laidC W (w.heap.size + 1) d) :=
  bodyPost_ret (run_rtold h8 (laidC_blk hb.b1)) hd (h (laidC_kept hb.new (by omega)))
set_option maxHeartbeats 4000000 in
set_option maxRecDepth 100000 in
theorem rtold_any (c : Core) (A : Option Addr) (n k : Nat) (l : List Ins) (v : Int) (w : World) (hl : SliceOf repIns w w.heap.size A n k l) :
    Calls Try.prog 10 #[coreV c, .slice A n k, .int .i64 v] w fun e w' => e = .returned (coreV (toldC c l v)) ∧ New w w' := by
  have hn := hl.len
  have hbd := hl.bound
  obtain ⟨res, hres⟩ : ∃ res, toldC c l v = res := ⟨_, rfl⟩
  rw [hres]
  unfold toldC at hres
  have hbase : Two 34 w ((w.alloc (.cells (coreC c) 34)).alloc (.cells (coreC ⟨0, 0, 0, 0, 0, 0, 0, 0, 0⟩) 34)) c := Two.made _ _ _
  by_cases h0 : c.pc < 0 ∨ (l.length : Int) ≤ c.pc
  · have E : atPC c l = (⟨0, 0, 0, 0, 0⟩, false) := if_pos h0
    rw [E] at hres
    have hr : res = c.next := hres.symm.trans (if_neg (by simp))
    subst hr
    clear hres E
    rw [← hn] at h0
    obtain ⟨pc, r0, r1, r2, r3, r4, r5, r6, r7⟩ := c
    simp only at h0
    unfold coreV coreC at *
    have HL := Lib.hid hl
    have HBASE := Lib.hid hbase
    have HN := Lib.hid hn
    clear hl hbase hn
    have HB := HBASE
    go_enter Try.func10, Try.ntmps10
    go_upto_region 3 with (fail)
    all_goals
      generalize hW0 : (w.alloc (.cells #[.int .i64 pc, .int .i64 r0, .int .i64 r1, .int .i64 r2, .int .i64 r3, .int .i64 r4, .int .i64 r5, .int .i64 r6, .int .i64 r7] 34)).alloc (.cells #[.int .i64 0, .int .i64 0, .int .i64 0, .int .i64 0, .int .i64 0, .int .i64 0, .int .i64 0, .int .i64 0, .int .i64 0] 34) = W0 at *
      obtain ⟨d0, d1, d2, d3, d4, d5, d6, d7, d8⟩ := Blk.core HB.out.b0
      go_wp2_with fail
      have hnx := rnext_any ⟨pc, r0, r1, r2, r3, r4, r5, r6, r7⟩ W0
      unfold coreV coreC Core.next at hnx
      simp only at hnx
      refine hnx.mono ?_
      rintro e w6 ⟨rfl, hw6⟩
      have hB6 := HB.out.go hw6
      obtain ⟨e0, e1, e2, e3, e4, e5, e6, e7, e8⟩ := Blk.core hB6.b1
      have f1 := hB6.b1.free
      have HB6 := Lib.hid hB6
      clear hB6 hnx hw6 d0 d1 d2 d3 d4 d5 d6 d7 d8
      go_wp2_with fail
      refine end_rtold (d := ⟨wrap64 (pc + 1), r0, r1, r2, r3, r4, r5, r6, r7⟩) HB6.out rfl rfl fun h => ⟨?_, h⟩
      rfl
  · have hp : ∃ m : Nat, c.pc = (m : Int) ∧ m < l.length := ⟨c.pc.toNat, by omega, by omega⟩
    obtain ⟨m, hm, hml⟩ := hp
    obtain ⟨bb, o, rfl, hb', hc⟩ := ins_at hl (by omega)
    obtain ⟨c0, c1, c2, c3, c4⟩ := hc m hml
    have E : atPC c l = (l[m], true) := by unfold atPC; rw [if_neg h0, hm]; simp [List.getElem?_eq_getElem hml]
    rw [E] at hres
    have hr := hres.symm.trans (if_pos rfl)
    clear hres E
    obtain ⟨pc, r0, r1, r2, r3, r4, r5, r6, r7⟩ := c
    simp only at h0 hm
    subst hm
    simp only at hr
    have hmn : m < n := by omega
    generalize l[m] = x at *
    obtain ⟨op, a, b, cc, imm⟩ := x
    simp only at hr c0 c1 c2 c3 c4
    unfold coreV coreC at *
    have HL := Lib.hid hl
    have HBASE := Lib.hid hbase
    have HN := Lib.hid hn
    have HR := Lib.hid hr
    clear hl hbase hn hr
    clear h0 hc
    go_enter Try.func10, Try.ntmps10
    go_upto_region 2 with (fail)
    have hB : Two 34 w ((w.alloc (.cells #[.int .i64 (m : Int), .int .i64 r0, .int .i64 r1, .int .i64 r2, .int .i64 r3, .int .i64 r4, .int .i64 r5, .int .i64 r6, .int .i64 r7] 34)).alloc (.cells #[.int .i64 0, .int .i64 0, .int .i64 0, .int .i64 0, .int .i64 0, .int .i64 0, .int .i64 0, .int .i64 0, .int .i64 0] 34)) ⟨m, r0, r1, r2, r3, r4, r5, r6, r7⟩ := HBASE.out
    have x1 : ((w.alloc (.cells #[.int .i64 (m : Int), .int .i64 r0, .int .i64 r1, .int .i64 r2, .int .i64 r3, .int .i64 r4, .int .i64 r5, .int .i64 r6, .int .i64 r7] 34)).alloc (.cells #[.int .i64 0, .int .i64 0, .int .i64 0, .int .i64 0, .int .i64 0, .int .i64 0, .int .i64 0, .int .i64 0, .int .i64 0] 34)).cell? ⟨bb, o + m * 5 + 1, none⟩ = some (.int .i64 a) := Cpu.New.holds (((Kept.refl _ _).alloc _).alloc _) c1
    generalize (w.alloc (.cells #[.int .i64 (m : Int), .int .i64 r0, .int .i64 r1, .int .i64 r2, .int .i64 r3, .int .i64 r4, .int .i64 r5, .int .i64 r6, .int .i64 r7] 34)).alloc (.cells #[.int .i64 0, .int .i64 0, .int .i64 0, .int .i64 0, .int .i64 0, .int .i64 0, .int .i64 0, .int .i64 0, .int .i64 0] 34) = W at *
    clear c0 c1 c2 c3 c4
    have x0 : W.cell? ⟨w.heap.size, 0, none⟩ = some (.int .i64 (m : Int)) := hB.b0.cell 0
    have hput := rput_any ⟨m, r0, r1, r2, r3, r4, r5, r6, r7⟩ w.heap.size a v W hB.b0
    have HBB := Lib.hid hB
    have HPUT := Lib.hid hput
    clear hB hput
    go_wp2_with fail
    refine HPUT.out.mono ?_
    rintro e w2 ⟨rfl, hk2, hb2⟩
    have hB2 := HBB.out.put hk2 hb2
    obtain ⟨⟨p0, p1, p2, p3, p4, p5, p6, p7, p8⟩, hd⟩ : ∃ d, Core.put ⟨m, r0, r1, r2, r3, r4, r5, r6, r7⟩ a v = d := ⟨_, rfl⟩
    rw [hd] at hB2
    have HB := Lib.hid hB2
    have HD := Lib.hid hd
    clear hd hB2 hk2 hb2 x0 x1
    obtain ⟨d0, d1, d2, d3, d4, d5, d6, d7, d8⟩ := Blk.core HB.out.b0
    go_wp2_with fail
    have hnx := rnext_any ⟨p0, p1, p2, p3, p4, p5, p6, p7, p8⟩ w2
    unfold coreV coreC Core.next at hnx
    simp only at hnx
    refine hnx.mono ?_
    rintro e w6 ⟨rfl, hw6⟩
    have hB6 := HB.out.go hw6
    obtain ⟨e0, e1, e2, e3, e4, e5, e6, e7, e8⟩ := Blk.core hB6.b1
    have f1 := hB6.b1.free
    have HB6 := Lib.hid hB6
    clear hB6 hnx hw6 d0 d1 d2 d3 d4 d5 d6 d7 d8
    go_wp2_with fail
    refine end_rtold (d := ⟨wrap64 (p0 + 1), p1, p2, p3, p4, p5, p6, p7, p8⟩) HB6.out rfl rfl fun h => ⟨?_, h⟩
    rw [HR.out, HD.out]
    rfl
theorem run_rtook {tmps : Array Value} {W : World} {x : Nat} {d : Core} (h8 : tmps.getD 8 undef = .pointer (some ⟨x, 0, none⟩)) (b1 : Blk W x 34 (coreC d)) :
    (results Try.f11 tmps).run Try.prog W = .ok (coreV d) W := by
  obtain ⟨d0, d1, d2, d3, d4, d5, d6, d7, d8⟩ := Blk.core b1
  rw [Array.getD_eq_getD_getElem?] at h8
  simp [results, Try.results11, go_sem, h8, d0, d1, d2, d3, d4, d5, d6, d7, d8, coreV, coreC]
theorem end_rtook {w W : World} {c d : Core} {a : Act} {R : Ending → World → Prop} (hb : Two 34 w W c) (h8 : a.tmps.getD 8 undef = .pointer (some ⟨w.heap.size + 1, 0, none⟩)) (hd : a.defers = [])
    (h : New w (laidC W (w.heap.size + 1) d) → R (.returned (coreV d)) (laidC W (w.heap.size + 1) d)) : bodyPost Try.prog Try.f11 R .ret a (laidC W (w.heap.size + 1) d) :=
  bodyPost_ret (run_rtook h8 (laidC_blk hb.b1)) hd (h (laidC_kept hb.new (by omega)))
set_option maxHeartbeats 4000000 in
set_option maxRecDepth 100000 in
theorem rtook_any (c : Core) (A : Option Addr) (n k : Nat) (l : List Ins) (v u : Int) (w : World) (hl : SliceOf repIns w w.heap.size A n k l) :
    Calls Try.prog 11 #[coreV c, .slice A n k, .int .i64 v, .int .i64 u] w fun e w' => e = .returned (coreV (tookC c l v u)) ∧ New w w' := by
  have hn := hl.len
  have hbd := hl.bound
  obtain ⟨res, hres⟩ : ∃ res, tookC c l v u = res := ⟨_, rfl⟩
  rw [hres]
  unfold tookC at hres
  have hbase : Two 34 w ((w.alloc (.cells (coreC c) 34)).alloc (.cells (coreC ⟨0, 0, 0, 0, 0, 0, 0, 0, 0⟩) 34)) c := Two.made _ _ _
  by_cases h0 : c.pc < 0 ∨ (l.length : Int) ≤ c.pc
  · have E : atPC c l = (⟨0, 0, 0, 0, 0⟩, false) := if_pos h0
    rw [E] at hres
    have hr : res = c.next := hres.symm.trans (if_neg (by simp))
    subst hr
    clear hres E
    rw [← hn] at h0
    obtain ⟨pc, r0, r1, r2, r3, r4, r5, r6, r7⟩ := c
    simp only at h0
    unfold coreV coreC at *
    have HL := Lib.hid hl
    have HBASE := Lib.hid hbase
    have HN := Lib.hid hn
    clear hl hbase hn
    have HB := HBASE
    go_enter Try.func11, Try.ntmps11
    go_upto_region 5 with (fail)
    all_goals
      generalize hW0 : (w.alloc (.cells #[.int .i64 pc, .int .i64 r0, .int .i64 r1, .int .i64 r2, .int .i64 r3, .int .i64 r4, .int .i64 r5, .int .i64 r6, .int .i64 r7] 34)).alloc (.cells #[.int .i64 0, .int .i64 0, .int .i64 0, .int .i64 0, .int .i64 0, .int .i64 0, .int .i64 0, .int .i64 0, .int .i64 0] 34) = W0 at *
      obtain ⟨d0, d1, d2, d3, d4, d5, d6, d7, d8⟩ := Blk.core HB.out.b0
      go_wp2_with fail
      have hnx := rnext_any ⟨pc, r0, r1, r2, r3, r4, r5, r6, r7⟩ W0
      unfold coreV coreC Core.next at hnx
      simp only at hnx
      refine hnx.mono ?_
      rintro e w6 ⟨rfl, hw6⟩
      have hB6 := HB.out.go hw6
      obtain ⟨e0, e1, e2, e3, e4, e5, e6, e7, e8⟩ := Blk.core hB6.b1
      have f1 := hB6.b1.free
      have HB6 := Lib.hid hB6
      clear hB6 hnx hw6 d0 d1 d2 d3 d4 d5 d6 d7 d8
      go_wp2_with fail
      refine end_rtook (d := ⟨wrap64 (pc + 1), r0, r1, r2, r3, r4, r5, r6, r7⟩) HB6.out rfl rfl fun h => ⟨?_, h⟩
      rfl
  · have hp : ∃ m : Nat, c.pc = (m : Int) ∧ m < l.length := ⟨c.pc.toNat, by omega, by omega⟩
    obtain ⟨m, hm, hml⟩ := hp
    obtain ⟨bb, o, rfl, hb', hc⟩ := ins_at hl (by omega)
    obtain ⟨c0, c1, c2, c3, c4⟩ := hc m hml
    have E : atPC c l = (l[m], true) := by unfold atPC; rw [if_neg h0, hm]; simp [List.getElem?_eq_getElem hml]
    rw [E] at hres
    have hr := hres.symm.trans (if_pos rfl)
    clear hres E
    obtain ⟨pc, r0, r1, r2, r3, r4, r5, r6, r7⟩ := c
    simp only at h0 hm
    subst hm
    simp only at hr
    have hmn : m < n := by omega
    generalize l[m] = x at *
    obtain ⟨op, a, b, cc, imm⟩ := x
    simp only at hr c0 c1 c2 c3 c4
    unfold coreV coreC at *
    have HL := Lib.hid hl
    have HBASE := Lib.hid hbase
    have HN := Lib.hid hn
    have HR := Lib.hid hr
    clear hl hbase hn hr
    clear h0 hc
    go_enter Try.func11, Try.ntmps11
    go_upto_region 3 with (fail)
    have hB : Two 34 w (((w.alloc (.cells #[.int .i64 (m : Int), .int .i64 r0, .int .i64 r1, .int .i64 r2, .int .i64 r3, .int .i64 r4, .int .i64 r5, .int .i64 r6, .int .i64 r7] 34)).alloc (.cells #[.int .i64 0, .int .i64 0, .int .i64 0, .int .i64 0, .int .i64 0, .int .i64 0, .int .i64 0, .int .i64 0, .int .i64 0] 34)).alloc (.cells #[.int .i64 op, .int .i64 a, .int .i64 b, .int .i64 cc, .int .i64 imm] 32)) ⟨m, r0, r1, r2, r3, r4, r5, r6, r7⟩ := HBASE.out.go ((Kept.refl _ _).alloc _)
    have bi : Blk (((w.alloc (.cells #[.int .i64 (m : Int), .int .i64 r0, .int .i64 r1, .int .i64 r2, .int .i64 r3, .int .i64 r4, .int .i64 r5, .int .i64 r6, .int .i64 r7] 34)).alloc (.cells #[.int .i64 0, .int .i64 0, .int .i64 0, .int .i64 0, .int .i64 0, .int .i64 0, .int .i64 0, .int .i64 0, .int .i64 0] 34)).alloc (.cells #[.int .i64 op, .int .i64 a, .int .i64 b, .int .i64 cc, .int .i64 imm] 32)) (w.heap.size + 1 + 1) 32 #[.int .i64 op, .int .i64 a, .int .i64 b, .int .i64 cc, .int .i64 imm] := Blk.made_at _ _ _ _ (by rw [← size1, ← size1])
    generalize ((w.alloc (.cells #[.int .i64 (m : Int), .int .i64 r0, .int .i64 r1, .int .i64 r2, .int .i64 r3, .int .i64 r4, .int .i64 r5, .int .i64 r6, .int .i64 r7] 34)).alloc (.cells #[.int .i64 0, .int .i64 0, .int .i64 0, .int .i64 0, .int .i64 0, .int .i64 0, .int .i64 0, .int .i64 0, .int .i64 0] 34)).alloc (.cells #[.int .i64 op, .int .i64 a, .int .i64 b, .int .i64 cc, .int .i64 imm] 32) = W at *
    clear c0 c1 c2 c3 c4
    have i1 : W.cell? ⟨w.heap.size + 1 + 1, 1, none⟩ = some (.int .i64 a) := bi.cell 1
    have hput := rput_any ⟨m, r0, r1, r2, r3, r4, r5, r6, r7⟩ w.heap.size a v W hB.b0
    have BI := Lib.hid bi
    have HBB := Lib.hid hB
    have HPUT := Lib.hid hput
    clear bi hB hput
    go_wp2_with fail
    refine HPUT.out.mono ?_
    rintro e w2 ⟨rfl, hk2, hb2⟩
    have hB2 := HBB.out.put hk2 hb2
    have bi2 := BI.out.kept hk2 (by omega)
    have i2 : w2.cell? ⟨w.heap.size + 1 + 1, 2, none⟩ = some (.int .i64 b) := bi2.cell 2
    have hput2 := rput_any _ w.heap.size b u w2 hB2.b0
    clear i1 hk2 hb2 bi2
    have HBB2 := Lib.hid hB2
    have HPUT2 := Lib.hid hput2
    clear hB2 hput2
    go_wp2_with fail
    refine HPUT2.out.mono ?_
    rintro e w3 ⟨rfl, hk3, hb3⟩
    have hB3 := HBB2.out.put hk3 hb3
    obtain ⟨⟨p0, p1, p2, p3, p4, p5, p6, p7, p8⟩, hd⟩ : ∃ d, Core.put (Core.put ⟨m, r0, r1, r2, r3, r4, r5, r6, r7⟩ a v) b u = d := ⟨_, rfl⟩
    rw [hd] at hB3
    have HB := Lib.hid hB3
    have HD := Lib.hid hd
    clear hd hB3 hk3 hb3 i2
    obtain ⟨d0, d1, d2, d3, d4, d5, d6, d7, d8⟩ := Blk.core HB.out.b0
    go_wp2_with fail
    have hnx := rnext_any ⟨p0, p1, p2, p3, p4, p5, p6, p7, p8⟩ w3
    unfold coreV coreC Core.next at hnx
    simp only at hnx
    refine hnx.mono ?_
    rintro e w6 ⟨rfl, hw6⟩
    have hB6 := HB.out.go hw6
    obtain ⟨e0, e1, e2, e3, e4, e5, e6, e7, e8⟩ := Blk.core hB6.b1
    have f1 := hB6.b1.free
    have HB6 := Lib.hid hB6
    clear hB6 hnx hw6 d0 d1 d2 d3 d4 d5 d6 d7 d8
    go_wp2_with fail
    refine end_rtook (d := ⟨wrap64 (p0 + 1), p1, p2, p3, p4, p5, p6, p7, p8⟩) HB6.out rfl rfl fun h => ⟨?_, h⟩
    rw [HR.out, HD.out]
    rfl
end Go.Proofs.Ytilioiebecpknaa.CpuR

namespace Go.Proofs.Ytilioiebecpknaa.CpuR
open Go.RowKit Go.Fb Go.BytesP Go.CodeP Go.CpuP _root_.Go.Proofs.Ytilioiebecpknaa.Code _root_.Go.Proofs.Ytilioiebecpknaa.Cpu
set_option linter.unusedVariables false
theorem eq_regs (d : Nat) (a0 a1 a2 a3 a4 a5 a6 a7 : Int) (w : World) :
    (Op.equalIn (d + 2) 23 (.agg #[.int .i64 a0, .int .i64 a1, .int .i64 a2, .int .i64 a3, .int .i64 a4, .int .i64 a5, .int .i64 a6, .int .i64 a7]) (.agg #[.int .i64 a0, .int .i64 a1, .int .i64 a2, .int .i64 a3, .int .i64 a4, .int .i64 a5, .int .i64 a6, .int .i64 a7])).run Try.prog w = .ok true w := by
  have hu := Try.underlying23
  have hi := Try.underlying2
  have ha := Try.isAgg2
  have hl : List.range' 0 8 = [0, 1, 2, 3, 4, 5, 6, 7] := rfl
  unfold Op.equalIn
  simp [run_underlying hu, hi, go_sem, hl, ha]
theorem eql_regs (a0 a1 a2 a3 a4 a5 a6 a7 : Int) (w : World) :
    (binOp .eql 23 (.agg #[.int .i64 a0, .int .i64 a1, .int .i64 a2, .int .i64 a3, .int .i64 a4, .int .i64 a5, .int .i64 a6, .int .i64 a7]) (.agg #[.int .i64 a0, .int .i64 a1, .int .i64 a2, .int .i64 a3, .int .i64 a4, .int .i64 a5, .int .i64 a6, .int .i64 a7])).run Try.prog w = .ok (.bool true) w := by
  rw [run_eql_struct, eq_regs 9998]
  rfl
theorem neq_core (c : Core) (w : World) : (binOp .neq 34 (coreV c) (coreV c)).run Try.prog w = .ok (.bool false) w := by
  have hf : (Try.prog.fieldsOf 34).toList = (Try.prog.fieldsOf 34).toList := rfl
  unfold coreV
  rw [run_neq_struct, run_equalIn_struct w 9999 34 (coreC c) (coreC c) (by kernel_rfl) (by kernel_rfl)]
  have hu := Try.underlying34
  have hi := Try.underlying3
  have hr := fun w => eq_regs 9997 c.r0 c.r1 c.r2 c.r3 c.r4 c.r5 c.r6 c.r7 w
  unfold Program.fieldsOf coreC
  rw [hu]
  simp [Op.eqFields, go_sem, hi, hr]
set_option maxHeartbeats 1000000 in
theorem ours_any (c : Core) (w : World) : Calls Try.prog 9 #[coreV c] w fun e w' => e = .returned (coreV c) ∧ New w w' := by
  obtain ⟨pc, r0, r1, r2, r3, r4, r5, r6, r7⟩ := c
  unfold coreV coreC
  go_enter Try.func9, Try.ntmps9
  go_wp2
  refine bodyPost_ret (v := coreV (Core.mk pc r0 r1 r2 r3 r4 r5 r6 r7)) (by simp [results, Try.results9, go_sem, coreV, coreC]) rfl ⟨rfl, ((Kept.refl _ _).alloc _).alloc _⟩
set_option maxHeartbeats 2000000 in
set_option maxRecDepth 100000 in
theorem same_any (c : Core) (t : Want) (w : World) : Calls Try.prog 12 #[coreV c, wantV t, coreV c, wantV t] w fun e w' => e = .returned (.bool true) ∧ New w w' := by
  obtain ⟨pc, r0, r1, r2, r3, r4, r5, r6, r7⟩ := c
  obtain ⟨kd, to, vl⟩ := t
  have heq := fun w => eql_regs r0 r1 r2 r3 r4 r5 r6 r7 w
  unfold coreV coreC wantV
  simp only
  go_enter Try.func12, Try.ntmps12
  go_wp2
  go_ret
  exact ⟨rfl, (((Kept.refl _ _).alloc _).alloc _).alloc _ |>.alloc _⟩
end Go.Proofs.Ytilioiebecpknaa.CpuR

namespace Go.Proofs.Ytilioiebecpknaa.CpuR
open Go.RowKit Go.Fb Go.BytesP Go.CodeP Go.CpuP _root_.Go.Proofs.Ytilioiebecpknaa.Code _root_.Go.Proofs.Ytilioiebecpknaa.Cpu
open Go.FltP (infR nanR mag neg wholeP belowP wholeM wholeM_lt edgeR)
set_option linter.unusedVariables false
def R64 (n : Int) : Prop := -9223372036854775808 ≤ n ∧ n ≤ 9223372036854775807
def In8 (c : Core) : Prop := R64 c.r0 ∧ R64 c.r1 ∧ R64 c.r2 ∧ R64 c.r3 ∧ R64 c.r4 ∧ R64 c.r5 ∧ R64 c.r6 ∧ R64 c.r7
theorem In8.all {c : Core} (h : In8 c) : InC c := by
  obtain ⟨h0, h1, h2, h3, h4, h5, h6, h7⟩ := h
  intro i
  unfold Core.get
  repeat (split; · assumption)
  exact ⟨by decide, by decide⟩
theorem In8.put {c : Core} (h : In8 c) (i : Int) {v : Int} (hv : R64 v) : In8 (c.put i v) := by
  obtain ⟨h0, h1, h2, h3, h4, h5, h6, h7⟩ := h
  unfold Core.put
  repeat (split; · exact ⟨by assumption, by assumption, by assumption, by assumption, by assumption, by assumption, by assumption, by assumption⟩)
  exact ⟨h0, h1, h2, h3, h4, h5, h6, h7⟩
theorem In8.next {c : Core} (h : In8 c) : In8 c.next := h
theorem r64_wrap (n : Int) : R64 (IntKind.i64.wrap n) := by
  unfold R64
  rw [IntKind.wrap_i64]
  omega
theorem r64_wrap64 (n : Int) : R64 (wrap64 n) := by
  unfold R64 wrap64
  omega
theorem val_r64 {op b c : Int} (hb : R64 b) (hc : R64 c) : R64 (AluP.val op b c) := by
  have hshr : R64 (AluP.shr b c) := by
    unfold AluP.shr
    split
    · exact hb
    · have h1 := AluP.dnTo_in (show AluP.In b from hb) (min (IntKind.u64.wrap c).toNat 64)
      unfold AluP.dnTo at h1
      exact h1
  have hshl : R64 (AluP.shl b c) := by
    unfold AluP.shl
    split
    · exact hb
    · exact r64_wrap64 _
  have hquo : R64 (AluP.quo b c) := by
    unfold AluP.quo
    split
    · exact ⟨by decide, by decide⟩
    · exact r64_wrap64 _
  have hone : ∀ x, R64 (AluP.one x) := by
    intro x
    unfold AluP.one
    split <;> exact ⟨by decide, by decide⟩
  have hbits : R64 (bits .and .i64 b c) ∧ R64 (bits .or .i64 b c) ∧ R64 (bits .xor .i64 b c) := by
    refine ⟨?_, ?_, ?_⟩
    · rw [AluP.bits_and]; exact AluP.bv_in _
    · rw [AluP.bits_or]; exact AluP.bv_in _
    · rw [AluP.bits_xor]; exact AluP.bv_in _
  clear hb hc
  unfold AluP.val
  by_cases o3 : op = 3
  · rw [if_pos o3]
    exact r64_wrap64 _
  rw [if_neg o3]
  by_cases o4 : op = 4
  · rw [if_pos o4]
    exact r64_wrap64 _
  rw [if_neg o4]
  by_cases o5 : op = 5
  · rw [if_pos o5]
    exact r64_wrap64 _
  rw [if_neg o5]
  by_cases o6 : op = 6
  · rw [if_pos o6]
    exact hquo
  rw [if_neg o6]
  by_cases o7 : op = 7
  · rw [if_pos o7]
    exact r64_wrap64 _
  rw [if_neg o7]
  by_cases o8 : op = 8
  · rw [if_pos o8]
    exact hbits.1
  rw [if_neg o8]
  by_cases o9 : op = 9
  · rw [if_pos o9]
    exact hbits.2.1
  rw [if_neg o9]
  by_cases o10 : op = 10
  · rw [if_pos o10]
    exact hbits.2.2
  rw [if_neg o10]
  by_cases o11 : op = 11
  · rw [if_pos o11]
    exact hshl
  rw [if_neg o11]
  by_cases o12 : op = 12
  · rw [if_pos o12]
    exact hshr
  rw [if_neg o12]
  by_cases o13 : op = 13
  · rw [if_pos o13]
    exact hone _
  rw [if_neg o13]
  by_cases o14 : op = 14
  · rw [if_pos o14]
    exact hone _
  rw [if_neg o14]
  exact ⟨by decide, by decide⟩
theorem flt_r64 {op b c : Int} : R64 (fltV op b c) := by
  have hbelow : ∀ x y, R64 (belowP x y) := by
    intro x y
    unfold belowP
    split
    · exact ⟨by decide, by decide⟩
    · split <;> exact ⟨by decide, by decide⟩
  have hwhole : ∀ x, R64 (wholeP x) := by
    intro x
    unfold wholeP
    split
    · exact ⟨by decide, by decide⟩
    · split
      · split <;> exact ⟨by decide, by decide⟩
      · rename_i h1 h2
        have := wholeM_lt (r := mag x) (by omega)
        unfold R64
        split <;> omega
  unfold fltV
  repeat (split; · first | exact r64_wrap _ | exact hbelow _ _ | exact hwhole _)
  exact ⟨by decide, by decide⟩
theorem valX_r64 {op b c : Int} (hb : R64 b) (hc : R64 c) : R64 (valX op b c) := by
  unfold valX
  split
  · exact val_r64 hb hc
  · exact flt_r64
theorem reckon_in8 {v : Int} {x : Ins} {c : Core} {tick self : Int} (h : In8 c) (hv : R64 v) (hi : R64 x.imm) (ht : R64 tick) (hs : R64 self) : In8 (reckon v x c tick self) := by
  unfold reckon
  repeat (split; · first | exact (h.put _ hi).next | exact (h.put _ (h.all _)).next | exact (h.put _ ht).next | exact (h.put _ hs).next | exact h | (split <;> exact h))
  exact (h.put _ hv).next
theorem step_in8 {c : Core} {l : List Ins} {tick self : Int} (h : In8 c) (hl : ∀ x ∈ l, R64 x.imm) (ht : R64 tick) (hs : R64 self) : In8 (stepX c l tick self).1 := by
  have hx : R64 (atPC c l).1.imm := by
    unfold atPC
    split
    · exact ⟨by decide, by decide⟩
    · show R64 (l.getD c.pc.toNat ⟨0, 0, 0, 0, 0⟩).imm
      rw [List.getD_eq_getElem?_getD]
      by_cases hk : c.pc.toNat < l.length
      · rw [List.getElem?_eq_getElem hk]
        exact hl _ (List.getElem_mem hk)
      · rw [List.getElem?_eq_none (by omega)]
        exact ⟨by decide, by decide⟩
  unfold stepX stepC
  split
  · exact h
  · split
    · show In8 (if _ then c else c.next)
      split
      · exact h
      · exact h
    · exact reckon_in8 h (valX_r64 (h.all _) (h.all _)) hx ht hs
end Go.Proofs.Ytilioiebecpknaa.CpuR
