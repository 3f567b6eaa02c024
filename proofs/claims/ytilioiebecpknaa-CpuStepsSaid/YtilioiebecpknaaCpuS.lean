/- The walk of Step (layer 13). -/
import Derived.Test.YtilioiebecpknaaCpuF
import Derived.WalkMore
import Derived.Deep.Cut
import Derived.StillTailTactics
namespace Go.Proofs.Ytilioiebecpknaa.Cpu
open Go.RowKit Go.Fb Go.BytesP Go.CodeP Go.CpuP _root_.Go.Proofs.Ytilioiebecpknaa.Code
set_option linter.unusedVariables false

theorem news {α : Type} {R : Rep α} {w w' : World} {A : Option Addr} {n c : Nat} {l : List α} (h : SliceOf R w w.heap.size A n c l) (hk : New w w') : SliceOf R w' w'.heap.size A n c l := (h.kept hk (Nat.le_refl _) fun _ _ h => h).more hk.size
theorem Blk.core {w : World} {b : Nat} {T : TypeId} {c : Core} (h : Blk w b T (coreC c)) : w.cell? ⟨b, 0, none⟩ = some (.int .i64 c.pc) ∧ w.cell? ⟨b, 1, none⟩ = some (.int .i64 c.r0) ∧ w.cell? ⟨b, 2, none⟩ = some (.int .i64 c.r1) ∧ w.cell? ⟨b, 3, none⟩ = some (.int .i64 c.r2) ∧ w.cell? ⟨b, 4, none⟩ = some (.int .i64 c.r3) ∧ w.cell? ⟨b, 5, none⟩ = some (.int .i64 c.r4) ∧ w.cell? ⟨b, 6, none⟩ = some (.int .i64 c.r5) ∧ w.cell? ⟨b, 7, none⟩ = some (.int .i64 c.r6) ∧ w.cell? ⟨b, 8, none⟩ = some (.int .i64 c.r7) :=
  ⟨h.cell 0, h.cell 1, h.cell 2, h.cell 3, h.cell 4, h.cell 5, h.cell 6, h.cell 7, h.cell 8⟩
/-- How the world stands behind Step's first region. -/
structure Base (w W : World) (c : Core) : Prop where
  new : New w W
  b0 : Blk W w.heap.size 25 (coreC c)
  b1 : Blk W (w.heap.size + 1) 25 (coreC ⟨0, 0, 0, 0, 0, 0, 0, 0, 0⟩)
  b2 : Blk W (w.heap.size + 1 + 1) 28 #[.int .i64 0, .int .i64 0, .int .i64 0]
  size : w.heap.size + 1 + 1 + 1 ≤ W.heap.size
theorem Base.go {w W W' : World} {c : Core} (h : Base w W c) (hk : New W W') : Base w W' c :=
  ⟨h.new.trans hk, h.b0.kept hk id, h.b1.kept hk id, h.b2.kept hk id, Nat.le_trans h.size hk.size⟩
theorem Base.made (w : World) (c : Core) : Base w (((w.alloc (.cells (coreC c) 25)).alloc (.cells (coreC ⟨0, 0, 0, 0, 0, 0, 0, 0, 0⟩) 25)).alloc (.cells #[.int .i64 0, .int .i64 0, .int .i64 0] 28)) c :=
  ⟨((Kept.refl _ _).alloc _).alloc _ |>.alloc _, ((Blk.made _ _ _).alloc _).alloc _, (Blk.made_at _ _ _ _ (size1 _ _)).alloc _, Blk.made_at _ _ _ _ (by rw [← size1, ← size1]), by rw [← size1, ← size1, ← size1]; exact Nat.le_refl _⟩
theorem Base.put {w W W' : World} {c c' : Core} (h : Base w W c) (hk : Kept (fun k => k = w.heap.size) W W') (hb : Blk W' w.heap.size 25 (coreC c')) : Base w W' c' :=
  ⟨h.new.step hk fun i hi e => absurd e (by omega), hb, h.b1.kept hk (by omega), h.b2.kept hk (by omega), Nat.le_trans h.size hk.size⟩
def wantC (t : Want) : Array Value := #[.int .i64 t.kind, .int .i64 t.to, .int .i64 t.val]
/-- A core and a want laid into their cells. -/
def laid (W : World) (x y : Nat) (d : Core) (t : Want) : World :=
  (((((((((((W.setCell ⟨x, 0, none⟩ (.int .i64 d.pc)).setCell ⟨x, 1, none⟩ (.int .i64 d.r0)).setCell ⟨x, 2, none⟩ (.int .i64 d.r1)).setCell ⟨x, 3, none⟩ (.int .i64 d.r2)).setCell ⟨x, 4, none⟩ (.int .i64 d.r3)).setCell ⟨x, 5, none⟩ (.int .i64 d.r4)).setCell ⟨x, 6, none⟩ (.int .i64 d.r5)).setCell ⟨x, 7, none⟩ (.int .i64 d.r6)).setCell ⟨x, 8, none⟩ (.int .i64 d.r7)).setCell ⟨y, 0, none⟩ (.int .i64 t.kind)).setCell ⟨y, 1, none⟩ (.int .i64 t.to)).setCell ⟨y, 2, none⟩ (.int .i64 t.val)
theorem coreC_sets (c d : Core) : (((((((((coreC c).setIfInBounds 0 (.int .i64 d.pc)).setIfInBounds 1 (.int .i64 d.r0)).setIfInBounds 2 (.int .i64 d.r1)).setIfInBounds 3 (.int .i64 d.r2)).setIfInBounds 4 (.int .i64 d.r3)).setIfInBounds 5 (.int .i64 d.r4)).setIfInBounds 6 (.int .i64 d.r5)).setIfInBounds 7 (.int .i64 d.r6)).setIfInBounds 8 (.int .i64 d.r7) = coreC d := by simp [coreC]
theorem wantC_sets (s d : Want) : (((wantC s).setIfInBounds 0 (.int .i64 d.kind)).setIfInBounds 1 (.int .i64 d.to)).setIfInBounds 2 (.int .i64 d.val) = wantC d := by simp [wantC]
theorem laid_core {W : World} {x y : Nat} {T : TypeId} {c d : Core} {t : Want} (b : Blk W x T (coreC c)) (h : x ≠ y) : Blk (laid W x y d t) x T (coreC d) := by
  have b1 := ((((((((b.set (i := 0) (.int .i64 d.pc)).set (i := 1) (.int .i64 d.r0)).set (i := 2) (.int .i64 d.r1)).set (i := 3) (.int .i64 d.r2)).set (i := 4) (.int .i64 d.r3)).set (i := 5) (.int .i64 d.r4)).set (i := 6) (.int .i64 d.r5)).set (i := 7) (.int .i64 d.r6)).set (i := 8) (.int .i64 d.r7)
  rw [coreC_sets] at b1
  exact ((b1.other (p := ⟨y, 0, none⟩) h _).other (p := ⟨y, 1, none⟩) h _).other (p := ⟨y, 2, none⟩) h _
theorem laid_want {W : World} {x y : Nat} {T : TypeId} {d : Core} {s t : Want} (b : Blk W y T (wantC s)) (h : y ≠ x) : Blk (laid W x y d t) y T (wantC t) := by
  have b1 := ((((((((b.other (p := ⟨x, 0, none⟩) h (.int .i64 d.pc)).other (p := ⟨x, 1, none⟩) h (.int .i64 d.r0)).other (p := ⟨x, 2, none⟩) h (.int .i64 d.r1)).other (p := ⟨x, 3, none⟩) h (.int .i64 d.r2)).other (p := ⟨x, 4, none⟩) h (.int .i64 d.r3)).other (p := ⟨x, 5, none⟩) h (.int .i64 d.r4)).other (p := ⟨x, 6, none⟩) h (.int .i64 d.r5)).other (p := ⟨x, 7, none⟩) h (.int .i64 d.r6)).other (p := ⟨x, 8, none⟩) h (.int .i64 d.r7)
  have b2 := ((b1.set (i := 0) (.int .i64 t.kind)).set (i := 1) (.int .i64 t.to)).set (i := 2) (.int .i64 t.val)
  rw [wantC_sets] at b2
  exact b2
theorem laid_kept {w W : World} {x y : Nat} {d : Core} {t : Want} (h : New w W) (hx : w.heap.size ≤ x) (hy : w.heap.size ≤ y) : New w (laid W x y d t) :=
  (((((((((((h.setCell (.inl hx) _).setCell (.inl hx) _).setCell (.inl hx) _).setCell (.inl hx) _).setCell (.inl hx) _).setCell (.inl hx) _).setCell (.inl hx) _).setCell (.inl hx) _).setCell (.inl hx) _).setCell (.inl hy) _).setCell (.inl hy) _).setCell (.inl hy) _
theorem run_results {tmps : Array Value} {W : World} {x y : Nat} {d : Core} {t : Want} (h8 : tmps.getD 8 undef = .pointer (some ⟨x, 0, none⟩)) (h9 : tmps.getD 9 undef = .pointer (some ⟨y, 0, none⟩))
    (b1 : Blk W x 25 (coreC d)) (b2 : Blk W y 28 (wantC t)) : (results Try.f7 tmps).run Try.prog W = .ok (.tuple #[coreV d, wantV t]) W := by
  obtain ⟨d0, d1, d2, d3, d4, d5, d6, d7, d8⟩ := Blk.core b1
  have g0 : W.cell? ⟨y, 0, none⟩ = some (.int .i64 t.kind) := b2.cell 0
  have g1 : W.cell? ⟨y, 1, none⟩ = some (.int .i64 t.to) := b2.cell 1
  have g2 : W.cell? ⟨y, 2, none⟩ = some (.int .i64 t.val) := b2.cell 2
  rw [Array.getD_eq_getD_getElem?] at h8 h9
  simp [results, Try.results7, go_sem, h8, h9, d0, d1, d2, d3, d4, d5, d6, d7, d8, g0, g1, g2, coreV, coreC, wantV]
theorem New.holds {a b : World} (h : New a b) {p : Addr} {v : Value} (hc : a.cell? p = some v) : b.cell? p = some v := (h.cell (lt_of_cell hc).1 id).trans hc
theorem step_fin {w W : World} {d : Core} {t : Want} {a : Act} {R : Ending → World → Prop} (b1 : Blk W (w.heap.size + 1) 25 (coreC d)) (b2 : Blk W (w.heap.size + 1 + 1) 28 (wantC t)) (hN : New w W)
    (h8 : a.tmps.getD 8 undef = .pointer (some ⟨w.heap.size + 1, 0, none⟩)) (h9 : a.tmps.getD 9 undef = .pointer (some ⟨w.heap.size + 1 + 1, 0, none⟩)) (hd : a.defers = [])
    (h : R (.returned (.tuple #[coreV d, wantV t])) W) : Exit.noGoto (bodyPost Try.prog Try.f7 R) .ret a W := by
  rw [Exit.noGoto_ret]
  exact bodyPost_ret (run_results h8 h9 b1 b2) hd h
theorem Blk.ofdrew {W : World} {b : Nat} {T : TypeId} {cs : Array Value} (h : Blk W b T cs) : Blk W.drew b T cs := h
theorem step_drew {w W : World} {c d : Core} {t : Want} {a : Act} {R : Ending → World → Prop} (hb : Base w W c) (h8 : a.tmps.getD 8 undef = .pointer (some ⟨w.heap.size + 1, 0, none⟩)) (h9 : a.tmps.getD 9 undef = .pointer (some ⟨w.heap.size + 1 + 1, 0, none⟩)) (hd : a.defers = [])
    (h : New w (laid W (w.heap.size + 1) (w.heap.size + 1 + 1) d t).drew → R (.returned (.tuple #[coreV d, wantV t])) (laid W (w.heap.size + 1) (w.heap.size + 1 + 1) d t).drew) :
    Exit.noGoto (bodyPost Try.prog Try.f7 R) .ret a (laid W (w.heap.size + 1) (w.heap.size + 1 + 1) d t).drew := by
  rw [Exit.noGoto_ret]
  refine bodyPost_ret (run_results h8 h9 (Blk.ofdrew (laid_core hb.b1 (by omega))) (Blk.ofdrew (laid_want (s := ⟨0, 0, 0⟩) hb.b2 (by omega)))) hd (h (laid_kept hb.new (by omega) (by omega)).drew)
theorem Base.fin {w W : World} {c : Core} (h : Base w W c) : (∀ j, W.frozen? ⟨w.heap.size + 1, j, none⟩ = false) ∧ (∀ j, W.frozen? ⟨w.heap.size + 1 + 1, j, none⟩ = false) ∧
      W.cell? ⟨w.heap.size + 1, 0, none⟩ = some (.int .i64 0) ∧ W.cell? ⟨w.heap.size + 1, 1, none⟩ = some (.int .i64 0) ∧ W.cell? ⟨w.heap.size + 1, 2, none⟩ = some (.int .i64 0) ∧ W.cell? ⟨w.heap.size + 1, 3, none⟩ = some (.int .i64 0) ∧ W.cell? ⟨w.heap.size + 1, 4, none⟩ = some (.int .i64 0) ∧ W.cell? ⟨w.heap.size + 1, 5, none⟩ = some (.int .i64 0) ∧ W.cell? ⟨w.heap.size + 1, 6, none⟩ = some (.int .i64 0) ∧ W.cell? ⟨w.heap.size + 1, 7, none⟩ = some (.int .i64 0) ∧ W.cell? ⟨w.heap.size + 1, 8, none⟩ = some (.int .i64 0) ∧
      W.cell? ⟨w.heap.size + 1 + 1, 0, none⟩ = some (.int .i64 0) ∧ W.cell? ⟨w.heap.size + 1 + 1, 1, none⟩ = some (.int .i64 0) ∧ W.cell? ⟨w.heap.size + 1 + 1, 2, none⟩ = some (.int .i64 0) :=
  ⟨h.b1.free, h.b2.free, h.b1.cell 0, h.b1.cell 1, h.b1.cell 2, h.b1.cell 3, h.b1.cell 4, h.b1.cell 5, h.b1.cell 6, h.b1.cell 7, h.b1.cell 8, h.b2.cell 0, h.b2.cell 1, h.b2.cell 2⟩
/-- The end: a core and a want lie in the results' cells. -/
theorem step_end {w W : World} {c d : Core} {t : Want} {a : Act} {R : Ending → World → Prop} (hb : Base w W c) (h8 : a.tmps.getD 8 undef = .pointer (some ⟨w.heap.size + 1, 0, none⟩)) (h9 : a.tmps.getD 9 undef = .pointer (some ⟨w.heap.size + 1 + 1, 0, none⟩)) (hd : a.defers = [])
    (h : New w (laid W (w.heap.size + 1) (w.heap.size + 1 + 1) d t) → R (.returned (.tuple #[coreV d, wantV t])) (laid W (w.heap.size + 1) (w.heap.size + 1 + 1) d t)) :
    Exit.noGoto (bodyPost Try.prog Try.f7 R) .ret a (laid W (w.heap.size + 1) (w.heap.size + 1 + 1) d t) := by
  rw [Exit.noGoto_ret]
  refine bodyPost_ret (run_results h8 h9 (laid_core hb.b1 (by omega)) (laid_want (s := ⟨0, 0, 0⟩) hb.b2 (by omega))) hd (h (laid_kept hb.new (by omega) (by omega)))
/-- A value, where the alu gives it. -/
def Fit (op V v : Int) : Prop := 3 ≤ op ∧ op ≤ 14 → v = V
set_option maxRecDepth 100000 in
set_option maxHeartbeats 4000000 in
theorem step_any (c : Core) (A : Option Addr) (n k : Nat) (l : List Ins) (tick self : Int) (w : World) (hl : SliceOf repIns w w.heap.size A n k l) :
    Calls Try.prog 7 #[coreV c, .slice A n k, .int .i64 tick, .int .i64 self] w fun e w' => (∃ v, Fit (atPC c l).1.op (AluP.val (atPC c l).1.op (c.get (atPC c l).1.b) (c.get (atPC c l).1.c)) v ∧ e = .returned (.tuple #[coreV (stepC v c l tick self).1, wantV (stepC v c l tick self).2])) ∧ New w w' := by
  obtain ⟨V0, hV0⟩ : ∃ V0, V0 = AluP.val (atPC c l).1.op (c.get (atPC c l).1.b) (c.get (atPC c l).1.c) := ⟨_, rfl⟩
  rw [← hV0]
  have HV0 := Lib.hid hV0
  clear hV0
  have hn := hl.len
  have hat := fun W (hW : New w W) => at_any c A n k l W (news hl hW)
  have hck := fun W => check_any (atPC c l).1 n 8 W
  have HST := Lib.hid (show ∀ v, stepC v c l tick self = (if (atPC c l).2 = false ∨ check (atPC c l).1 l.length 8 ≠ 0 then (c, ⟨1, 0, 0⟩)
    else if (wants (atPC c l).1 c).2.2 = true then ((if (wants (atPC c l).1 c).2.1 = true then c else c.next), (wants (atPC c l).1 c).1)
    else (reckon v (atPC c l).1 c tick self, ⟨0, 0, 0⟩)) from fun _ => rfl)
  rw [← hn] at HST
  generalize hq : atPC c l = q at *
  clear hq
  obtain ⟨⟨op, a, b, cc, imm⟩, is⟩ := q
  simp only at hat hck
  have hbase : ∀ W, New (((w.alloc (.cells (coreC c) 25)).alloc (.cells (coreC ⟨0, 0, 0, 0, 0, 0, 0, 0, 0⟩) 25)).alloc (.cells #[.int .i64 0, .int .i64 0, .int .i64 0] 28)) W → Base w W c := fun W hW => (Base.made w c).go hW
  have hcell := fun W hW => Blk.core (hbase W hW).b0
  obtain ⟨pc, r0, r1, r2, r3, r4, r5, r6, r7⟩ := c
  unfold coreV coreC agg at *
  simp only at hcell
  have HL := Lib.hid hl
  have HAT := Lib.hid hat
  have HCK := Lib.hid hck
  have HBASE := Lib.hid hbase
  clear hl hat hck hbase
  clear hn
  go_enter Try.func7, Try.ntmps7
  go_wp2_with fail
  generalize hW0 : (((w.alloc (.cells #[.int .i64 pc, .int .i64 r0, .int .i64 r1, .int .i64 r2, .int .i64 r3, .int .i64 r4, .int .i64 r5, .int .i64 r6, .int .i64 r7] 25)).alloc (.cells #[.int .i64 0, .int .i64 0, .int .i64 0, .int .i64 0, .int .i64 0, .int .i64 0, .int .i64 0, .int .i64 0, .int .i64 0] 25)).alloc (.cells #[.int .i64 0, .int .i64 0, .int .i64 0] 28)) = W0 at *
  have hall : ∀ W, New W0 W → New W0 W ∧ W.cell? ⟨w.heap.size, 0, none⟩ = some (.int .i64 pc) ∧ W.cell? ⟨w.heap.size, 1, none⟩ = some (.int .i64 r0) ∧ W.cell? ⟨w.heap.size, 2, none⟩ = some (.int .i64 r1) ∧ W.cell? ⟨w.heap.size, 3, none⟩ = some (.int .i64 r2) ∧ W.cell? ⟨w.heap.size, 4, none⟩ = some (.int .i64 r3) ∧ W.cell? ⟨w.heap.size, 5, none⟩ = some (.int .i64 r4) ∧ W.cell? ⟨w.heap.size, 6, none⟩ = some (.int .i64 r5) ∧ W.cell? ⟨w.heap.size, 7, none⟩ = some (.int .i64 r6) ∧ W.cell? ⟨w.heap.size, 8, none⟩ = some (.int .i64 r7) := fun W h => ⟨h, hcell W h⟩
  obtain ⟨-, d0, d1, d2, d3, d4, d5, d6, d7, d8⟩ := hall W0 (Kept.refl _ _)
  have hat' : ∀ W, New W0 W → Calls Try.prog 17 #[.agg #[.int .i64 pc, .int .i64 r0, .int .i64 r1, .int .i64 r2, .int .i64 r3, .int .i64 r4, .int .i64 r5, .int .i64 r6, .int .i64 r7], .slice A n k] W fun e w' => e = .returned (.tuple #[.agg #[.int .i64 op, .int .i64 a, .int .i64 b, .int .i64 cc, .int .i64 imm], .bool is]) ∧ New W0 w' := fun W h => (HAT.out W ((HBASE.out W h).new)).mono fun e w' h2 => ⟨h2.1, h.trans h2.2⟩
  have HALL := Lib.hid hall
  have HAT2 := Lib.hid hat'
  clear hall hat'
  clear hcell
  go_step3
  go_wp2_with fail
  refine (HAT2.out _ (Kept.refl _ _)).mono ?_
  rintro e w1 ⟨rfl, hw1⟩
  clear d0 d1 d2 d3 d4 d5 d6 d7 d8
  -- what is there behind the first call
  have hfin : ∀ W, New W0 W → (∀ j, W.frozen? ⟨w.heap.size + 1, j, none⟩ = false) ∧ (∀ j, W.frozen? ⟨w.heap.size + 1 + 1, j, none⟩ = false) ∧
      W.cell? ⟨w.heap.size + 1, 0, none⟩ = some (.int .i64 0) ∧ W.cell? ⟨w.heap.size + 1, 1, none⟩ = some (.int .i64 0) ∧ W.cell? ⟨w.heap.size + 1, 2, none⟩ = some (.int .i64 0) ∧ W.cell? ⟨w.heap.size + 1, 3, none⟩ = some (.int .i64 0) ∧ W.cell? ⟨w.heap.size + 1, 4, none⟩ = some (.int .i64 0) ∧ W.cell? ⟨w.heap.size + 1, 5, none⟩ = some (.int .i64 0) ∧ W.cell? ⟨w.heap.size + 1, 6, none⟩ = some (.int .i64 0) ∧ W.cell? ⟨w.heap.size + 1, 7, none⟩ = some (.int .i64 0) ∧ W.cell? ⟨w.heap.size + 1, 8, none⟩ = some (.int .i64 0) ∧
      W.cell? ⟨w.heap.size + 1 + 1, 0, none⟩ = some (.int .i64 0) ∧ W.cell? ⟨w.heap.size + 1 + 1, 1, none⟩ = some (.int .i64 0) ∧ W.cell? ⟨w.heap.size + 1 + 1, 2, none⟩ = some (.int .i64 0) := fun W h =>
    ⟨(HBASE.out W h).b1.free, (HBASE.out W h).b2.free, (HBASE.out W h).b1.cell 0, (HBASE.out W h).b1.cell 1, (HBASE.out W h).b1.cell 2, (HBASE.out W h).b1.cell 3, (HBASE.out W h).b1.cell 4, (HBASE.out W h).b1.cell 5, (HBASE.out W h).b1.cell 6, (HBASE.out W h).b1.cell 7, (HBASE.out W h).b1.cell 8, (HBASE.out W h).b2.cell 0, (HBASE.out W h).b2.cell 1, (HBASE.out W h).b2.cell 2⟩
  have HFIN := Lib.hid hfin
  clear hfin
  have hw1a := hw1.alloc (.cells #[.int .i64 op, .int .i64 a, .int .i64 b, .int .i64 cc, .int .i64 imm] 32)
  have bi := Blk.made w1 32 #[.int .i64 op, .int .i64 a, .int .i64 b, .int .i64 cc, .int .i64 imm]
  have BI := Lib.hid bi
  clear bi
  have hz1 := (HBASE.out w1 hw1).size
  cases is
  · obtain ⟨-, d0, d1, d2, d3, d4, d5, d6, d7, d8⟩ := HALL.out _ hw1a
    obtain ⟨f1, f2, e0, e1, e2, e3, e4, e5, e6, e7, e8, g0, g1, g2⟩ := HFIN.out _ hw1a
    go_wp2_with fail
    refine step_end (d := ⟨pc, r0, r1, r2, r3, r4, r5, r6, r7⟩) (t := ⟨1, 0, 0⟩) (HBASE.out _ hw1a) rfl rfl rfl fun h => ⟨⟨V0, fun _ => rfl, ?_⟩, h⟩
    rw [HST.out, if_pos (.inl trivial)]
    rfl
  · go_wp2_with fail
    refine (HCK.out _).mono ?_
    rintro e w2 ⟨rfl, hw2⟩
    have hw2a := hw1a.trans hw2
    have bi2 := BI.out.kept hw2 id
    have i0 : w2.cell? ⟨w1.heap.size, 0, none⟩ = some (.int .i64 op) := bi2.cell 0
    have i1 : w2.cell? ⟨w1.heap.size, 1, none⟩ = some (.int .i64 a) := bi2.cell 1
    have i2 : w2.cell? ⟨w1.heap.size, 2, none⟩ = some (.int .i64 b) := bi2.cell 2
    have i3 : w2.cell? ⟨w1.heap.size, 3, none⟩ = some (.int .i64 cc) := bi2.cell 3
    have i4 : w2.cell? ⟨w1.heap.size, 4, none⟩ = some (.int .i64 imm) := bi2.cell 4
    obtain ⟨-, d0, d1, d2, d3, d4, d5, d6, d7, d8⟩ := HALL.out _ hw2a
    by_cases hce : check ⟨op, a, b, cc, imm⟩ n 8 = 0
    · rw [hce]
      obtain ⟨-, ra, rb, rc, rj⟩ := check_regs hce
      have hwt := fun W => wants_any ⟨op, a, b, cc, imm⟩ ⟨pc, r0, r1, r2, r3, r4, r5, r6, r7⟩ W ra rb rc
      have BI2 := Lib.hid bi2
      have RA := Lib.hid ra
      have RB := Lib.hid rb
      have RC := Lib.hid rc
      have RJ := Lib.hid rj
      have HCE := Lib.hid hce
      have HWT := Lib.hid hwt
      clear bi2 ra rb rc rj hce hwt
      go_wp2_with fail
      refine (HWT.out _).mono ?_
      rintro e w3 ⟨rfl, hw3⟩
      have hw3a := hw2a.trans hw3
      have bi3 := BI2.out.kept hw3 id
      clear i0 i1 i2 i3 i4 d0 d1 d2 d3 d4 d5 d6 d7 d8
      have hz3 := (HBASE.out w3 hw3a).size
      have hst := fun v => HST.out v
      rw [HCE.out] at hst
      simp only [ne_eq, not_true, or_false, Bool.true_eq_false, if_false] at hst
      generalize wants ⟨op, a, b, cc, imm⟩ ⟨pc, r0, r1, r2, r3, r4, r5, r6, r7⟩ = wr at *
      obtain ⟨⟨kd, to, vl⟩, st, iw⟩ := wr
      unfold wantV
      simp only at hst ⊢
      have hw3b := hw3a.alloc (.cells #[.int .i64 kd, .int .i64 to, .int .i64 vl] 28)
      have bw := Blk.made w3 28 #[.int .i64 kd, .int .i64 to, .int .i64 vl]
      have bi4 := bi3.alloc (.cells #[.int .i64 kd, .int .i64 to, .int .i64 vl] 28)
      have BW := Lib.hid bw
      have BI3 := Lib.hid bi3
      have BI4 := Lib.hid bi4
      clear bw bi3 bi4
      have HST2 := Lib.hid hst
      clear hst
      cases iw
      · have hw4 := hw3b.alloc (.cells #[.int .i64 r0, .int .i64 r1, .int .i64 r2, .int .i64 r3, .int .i64 r4, .int .i64 r5, .int .i64 r6, .int .i64 r7] 23)
        have bi5 := BI4.out.alloc (.cells #[.int .i64 r0, .int .i64 r1, .int .i64 r2, .int .i64 r3, .int .i64 r4, .int .i64 r5, .int .i64 r6, .int .i64 r7] 23)
        have br := Blk.made (w3.alloc (.cells #[.int .i64 kd, .int .i64 to, .int .i64 vl] 28)) 23 #[.int .i64 r0, .int .i64 r1, .int .i64 r2, .int .i64 r3, .int .i64 r4, .int .i64 r5, .int .i64 r6, .int .i64 r7]
        have BS := Lib.hid (HBASE.out _ hw4)
        obtain ⟨-, d0, d1, d2, d3, d4, d5, d6, d7, d8⟩ := HALL.out _ hw3b
        have i0 : ((w3.alloc (.cells #[.int .i64 kd, .int .i64 to, .int .i64 vl] 28)).alloc (.cells #[.int .i64 r0, .int .i64 r1, .int .i64 r2, .int .i64 r3, .int .i64 r4, .int .i64 r5, .int .i64 r6, .int .i64 r7] 23)).cell? ⟨w1.heap.size, 0, none⟩ = some (.int .i64 op) := bi5.cell 0
        have i1 : ((w3.alloc (.cells #[.int .i64 kd, .int .i64 to, .int .i64 vl] 28)).alloc (.cells #[.int .i64 r0, .int .i64 r1, .int .i64 r2, .int .i64 r3, .int .i64 r4, .int .i64 r5, .int .i64 r6, .int .i64 r7] 23)).cell? ⟨w1.heap.size, 1, none⟩ = some (.int .i64 a) := bi5.cell 1
        have i2 : ((w3.alloc (.cells #[.int .i64 kd, .int .i64 to, .int .i64 vl] 28)).alloc (.cells #[.int .i64 r0, .int .i64 r1, .int .i64 r2, .int .i64 r3, .int .i64 r4, .int .i64 r5, .int .i64 r6, .int .i64 r7] 23)).cell? ⟨w1.heap.size, 2, none⟩ = some (.int .i64 b) := bi5.cell 2
        have i3 : ((w3.alloc (.cells #[.int .i64 kd, .int .i64 to, .int .i64 vl] 28)).alloc (.cells #[.int .i64 r0, .int .i64 r1, .int .i64 r2, .int .i64 r3, .int .i64 r4, .int .i64 r5, .int .i64 r6, .int .i64 r7] 23)).cell? ⟨w1.heap.size, 3, none⟩ = some (.int .i64 cc) := bi5.cell 3
        have i4 : ((w3.alloc (.cells #[.int .i64 kd, .int .i64 to, .int .i64 vl] 28)).alloc (.cells #[.int .i64 r0, .int .i64 r1, .int .i64 r2, .int .i64 r3, .int .i64 r4, .int .i64 r5, .int .i64 r6, .int .i64 r7] 23)).cell? ⟨w1.heap.size, 4, none⟩ = some (.int .i64 imm) := bi5.cell 4
        have BI5 := Lib.hid bi5
        have BR := Lib.hid br
        clear bi5 br
        go_wp2_with fail
        go_step3
        go_upto_region 10 with fail
        generalize hW4 : (w3.alloc (.cells #[.int .i64 kd, .int .i64 to, .int .i64 vl] 28)).alloc (.cells #[.int .i64 r0, .int .i64 r1, .int .i64 r2, .int .i64 r3, .int .i64 r4, .int .i64 r5, .int .i64 r6, .int .i64 r7] 23) = W4 at *
        clear d0 d1 d2 d3 d4 d5 d6 d7 d8
        have hput : ∀ W, Base w W ⟨pc, r0, r1, r2, r3, r4, r5, r6, r7⟩ → ∀ i v, Calls Try.prog 20 #[.pointer (some ⟨w.heap.size, 0, none⟩), .int .i64 i, .int .i64 v] W fun e w' => e = .returned (.tuple #[]) ∧ ∃ c', c' = Core.put ⟨pc, r0, r1, r2, r3, r4, r5, r6, r7⟩ i v ∧ Base w w' c' := fun W hW i v =>
          (put_any ⟨pc, r0, r1, r2, r3, r4, r5, r6, r7⟩ w.heap.size i v W hW.b0).mono fun e w' h => ⟨h.1, _, rfl, hW.put h.2.1 h.2.2⟩
        have HPUT := Lib.hid hput
        clear hput
        by_cases o1 : op = 1
        · subst o1
          go_wp2_with (first | (go_at_call 20; refine (HPUT.out _ (by first | exact BS.out | exact BS.out.go (Kept.drew (Kept.refl _ _))) _ _).mono ?_; rintro e w5 ⟨rfl, ⟨p0, p1, p2, p3, p4, p5, p6, p7, p8⟩, hc', hB⟩; obtain ⟨d0, d1, d2, d3, d4, d5, d6, d7, d8⟩ := Blk.core hB.b0; have HB := Lib.hid hB; have HC := Lib.hid hc'; clear hB hc'))
          have hnx := next_any ⟨p0, p1, p2, p3, p4, p5, p6, p7, p8⟩ w5
          unfold coreV coreC Core.next at hnx
          simp only at hnx
          refine hnx.mono ?_
          rintro e w6 ⟨rfl, hw6⟩
          have hB6 := HB.out.go hw6
          obtain ⟨f1, f2, e0, e1, e2, e3, e4, e5, e6, e7, e8, g0, g1, g2⟩ := hB6.fin
          have HB6 := Lib.hid hB6
          clear hB6 hnx hw6 i0 i1 i2 i3 i4 d0 d1 d2 d3 d4 d5 d6 d7 d8
          go_wp2_with fail
          refine step_end (d := ⟨wrap64 (p0 + 1), p1, p2, p3, p4, p5, p6, p7, p8⟩) (t := ⟨0, 0, 0⟩) HB6.out rfl rfl rfl fun h => ⟨⟨V0, fun _ => rfl, ?_⟩, h⟩
          rw [HST2.out]
          show _ = Ending.returned (.tuple #[coreV (reckon _ _ _ _ _), _])
          simp only [reckon, if_true]
          rw [← HC.out]
          rfl
        by_cases o32 : op = 32
        · subst o32
          go_wp2_with (first | (go_at_call 20; refine (HPUT.out _ (by first | exact BS.out | exact BS.out.go (Kept.drew (Kept.refl _ _))) _ _).mono ?_; rintro e w5 ⟨rfl, ⟨p0, p1, p2, p3, p4, p5, p6, p7, p8⟩, hc', hB⟩; obtain ⟨d0, d1, d2, d3, d4, d5, d6, d7, d8⟩ := Blk.core hB.b0; have HB := Lib.hid hB; have HC := Lib.hid hc'; clear hB hc'))
          have hnx := next_any ⟨p0, p1, p2, p3, p4, p5, p6, p7, p8⟩ w5
          unfold coreV coreC Core.next at hnx
          simp only at hnx
          refine hnx.mono ?_
          rintro e w6 ⟨rfl, hw6⟩
          have hB6 := HB.out.go hw6
          obtain ⟨f1, f2, e0, e1, e2, e3, e4, e5, e6, e7, e8, g0, g1, g2⟩ := hB6.fin
          have HB6 := Lib.hid hB6
          clear hB6 hnx hw6 i0 i1 i2 i3 i4 d0 d1 d2 d3 d4 d5 d6 d7 d8
          go_wp2_with fail
          refine step_end (d := ⟨wrap64 (p0 + 1), p1, p2, p3, p4, p5, p6, p7, p8⟩) (t := ⟨0, 0, 0⟩) HB6.out rfl rfl rfl fun h => ⟨⟨V0, fun _ => rfl, ?_⟩, h⟩
          rw [HST2.out]
          show _ = Ending.returned (.tuple #[coreV (reckon _ _ _ _ _), _])
          simp only [reckon, (by decide : ¬ ((32 : Int) = 1)), (by decide : ¬ ((32 : Int) = 2)), if_true, if_false]
          rw [← HC.out]
          rfl
        by_cases o33 : op = 33
        · subst o33
          go_wp2_with (first | (go_at_call 20; refine (HPUT.out _ (by first | exact BS.out | exact BS.out.go (Kept.drew (Kept.refl _ _))) _ _).mono ?_; rintro e w5 ⟨rfl, ⟨p0, p1, p2, p3, p4, p5, p6, p7, p8⟩, hc', hB⟩; obtain ⟨d0, d1, d2, d3, d4, d5, d6, d7, d8⟩ := Blk.core hB.b0; have HB := Lib.hid hB; have HC := Lib.hid hc'; clear hB hc'))
          have hnx := next_any ⟨p0, p1, p2, p3, p4, p5, p6, p7, p8⟩ w5
          unfold coreV coreC Core.next at hnx
          simp only at hnx
          refine hnx.mono ?_
          rintro e w6 ⟨rfl, hw6⟩
          have hB6 := HB.out.go hw6
          obtain ⟨f1, f2, e0, e1, e2, e3, e4, e5, e6, e7, e8, g0, g1, g2⟩ := hB6.fin
          have HB6 := Lib.hid hB6
          clear hB6 hnx hw6 i0 i1 i2 i3 i4 d0 d1 d2 d3 d4 d5 d6 d7 d8
          go_wp2_with fail
          refine step_end (d := ⟨wrap64 (p0 + 1), p1, p2, p3, p4, p5, p6, p7, p8⟩) (t := ⟨0, 0, 0⟩) HB6.out rfl rfl rfl fun h => ⟨⟨V0, fun _ => rfl, ?_⟩, h⟩
          rw [HST2.out]
          show _ = Ending.returned (.tuple #[coreV (reckon _ _ _ _ _), _])
          simp only [reckon, (by decide : ¬ ((33 : Int) = 1)), (by decide : ¬ ((33 : Int) = 2)), (by decide : ¬ ((33 : Int) = 32)), if_true, if_false]
          rw [← HC.out]
          rfl
        have hBj := Lib.hid (BS.out.put (c' := ⟨imm, r0, r1, r2, r3, r4, r5, r6, r7⟩) (Kept.setCell (g := fun k => k = w.heap.size) (p := ⟨w.heap.size, 0, none⟩) (Kept.refl _ _) (.inr rfl) (.int .i64 imm)) (BS.out.b0.set (i := 0) (.int .i64 imm)))
        by_cases o22 : op = 22
        · subst o22
          obtain ⟨d0, d1, d2, d3, d4, d5, d6, d7, d8⟩ := Blk.core hBj.out.b0
          obtain ⟨f1, f2, e0, e1, e2, e3, e4, e5, e6, e7, e8, g0, g1, g2⟩ := hBj.out.fin
          have f3 := BS.out.b0.free
          have d9 := BS.out.b0.cell 0
          clear o1 o32 o33
          go_wp2_with fail
          refine step_end (d := ⟨imm, r0, r1, r2, r3, r4, r5, r6, r7⟩) (t := ⟨0, 0, 0⟩) hBj.out rfl rfl rfl fun h => ⟨⟨V0, fun _ => rfl, ?_⟩, h⟩
          rw [HST2.out]
          rfl
        have br' : Blk W4 (w3.heap.size + 1) 23 (regsC ⟨pc, r0, r1, r2, r3, r4, r5, r6, r7⟩) := by have h := BR.out; rw [← size1] at h; exact h
        obtain ⟨ma, hma, ka⟩ : ∃ m : Nat, a = (m : Int) ∧ m < 8 := ⟨a.toNat, by have h : 0 ≤ a ∧ a < 8 := RA.out; omega, by have h : 0 ≤ a ∧ a < 8 := RA.out; omega⟩
        obtain ⟨mb, hmb, kb⟩ : ∃ m : Nat, b = (m : Int) ∧ m < 8 := ⟨b.toNat, by have h : 0 ≤ b ∧ b < 8 := RB.out; omega, by have h : 0 ≤ b ∧ b < 8 := RB.out; omega⟩
        obtain ⟨mc, hmc, kc⟩ : ∃ m : Nat, cc = (m : Int) ∧ m < 8 := ⟨cc.toNat, by have h : 0 ≤ cc ∧ cc < 8 := RC.out; omega, by have h : 0 ≤ cc ∧ cc < 8 := RC.out; omega⟩
        subst hma
        subst hmb
        subst hmc
        have ga := (br'.cell ma).trans (regsC_get _ ma ka)
        have gb := (br'.cell mb).trans (regsC_get _ mb kb)
        have gc := (br'.cell mc).trans (regsC_get _ mc kc)
        have l1 : (0 : Int) ≤ (ma : Int) := by omega
        have l2 : (ma : Int) < 8 := by omega
        have l3 : (0 : Int) ≤ (mb : Int) := by omega
        have l4 : (mb : Int) < 8 := by omega
        have l5 : (0 : Int) ≤ (mc : Int) := by omega
        have l6 : (mc : Int) < 8 := by omega
        have BR2 := Lib.hid br'
        clear br'
        by_cases o23 : op = 23
        · subst o23
          clear o1 o32 o33 o22 gb gc
          generalize hva : Core.get ⟨pc, r0, r1, r2, r3, r4, r5, r6, r7⟩ ma = va at *
          have HVA := Lib.hid hva
          clear hva
          by_cases hz : va = 0
          · subst hz
            obtain ⟨d0, d1, d2, d3, d4, d5, d6, d7, d8⟩ := Blk.core BS.out.b0
            go_wp2_with fail
            have hnx := next_any ⟨pc, r0, r1, r2, r3, r4, r5, r6, r7⟩ W4
            unfold coreV coreC Core.next at hnx
            simp only at hnx
            refine hnx.mono ?_
            rintro e w6 ⟨rfl, hw6⟩
            have hB6 := BS.out.go hw6
            obtain ⟨f1, f2, e0, e1, e2, e3, e4, e5, e6, e7, e8, g0, g1, g2⟩ := hB6.fin
            have HB6 := Lib.hid hB6
            clear hB6 hnx hw6 i0 i1 i2 i3 i4 d0 d1 d2 d3 d4 d5 d6 d7 d8
            go_wp2_with fail
            refine step_end (d := ⟨wrap64 (pc + 1), r0, r1, r2, r3, r4, r5, r6, r7⟩) (t := ⟨0, 0, 0⟩) HB6.out rfl rfl rfl fun h => ⟨⟨V0, fun _ => rfl, ?_⟩, h⟩
            rw [HST2.out]
            show _ = Ending.returned (.tuple #[coreV (reckon _ _ _ _ _), _])
            simp only [reckon, (by decide : ¬ ((23 : Int) = 1)), (by decide : ¬ ((23 : Int) = 2)), (by decide : ¬ ((23 : Int) = 32)), (by decide : ¬ ((23 : Int) = 33)), (by decide : ¬ ((23 : Int) = 22)), if_false, if_true, HVA.out]
            rfl
          · obtain ⟨d0, d1, d2, d3, d4, d5, d6, d7, d8⟩ := Blk.core hBj.out.b0
            obtain ⟨f1, f2, e0, e1, e2, e3, e4, e5, e6, e7, e8, g0, g1, g2⟩ := hBj.out.fin
            have f3 := BS.out.b0.free
            have d9 := BS.out.b0.cell 0
            have hzz : (va == 0) = false := by simpa using hz
            go_wp2_with fail
            refine step_end (d := ⟨imm, r0, r1, r2, r3, r4, r5, r6, r7⟩) (t := ⟨0, 0, 0⟩) hBj.out rfl rfl rfl fun h => ⟨⟨V0, fun _ => rfl, ?_⟩, h⟩
            rw [HST2.out]
            show _ = Ending.returned (.tuple #[coreV (reckon _ _ _ _ _), _])
            simp only [reckon, (by decide : ¬ ((23 : Int) = 1)), (by decide : ¬ ((23 : Int) = 2)), (by decide : ¬ ((23 : Int) = 32)), (by decide : ¬ ((23 : Int) = 33)), (by decide : ¬ ((23 : Int) = 22)), if_false, if_true, HVA.out, hz]
            rfl
        by_cases o2 : op = 2
        · subst o2
          clear o1 o32 o33 o22 o23 ga gc
          generalize hvb : Core.get ⟨pc, r0, r1, r2, r3, r4, r5, r6, r7⟩ mb = vb at *
          have HVB := Lib.hid hvb
          clear hvb
          go_wp2_with fail
          go_region_with (first | (go_at_call 20; refine (HPUT.out _ (by first | exact BS.out | exact BS.out.go (Kept.drew (Kept.refl _ _))) _ _).mono ?_; rintro e w5 ⟨rfl, ⟨p0, p1, p2, p3, p4, p5, p6, p7, p8⟩, hc', hB⟩; obtain ⟨d0, d1, d2, d3, d4, d5, d6, d7, d8⟩ := Blk.core hB.b0; have HB := Lib.hid hB; have HC := Lib.hid hc'; clear hB hc'))
          all_goals
            go_wp2_with fail
            have hnx := next_any ⟨p0, p1, p2, p3, p4, p5, p6, p7, p8⟩ w5
            unfold coreV coreC Core.next at hnx
            simp only at hnx
            refine hnx.mono ?_
            rintro e w6 ⟨rfl, hw6⟩
            have hB6 := HB.out.go hw6
            obtain ⟨f1, f2, e0, e1, e2, e3, e4, e5, e6, e7, e8, g0, g1, g2⟩ := hB6.fin
            have HB6 := Lib.hid hB6
            clear hB6 hnx hw6 i0 i1 i2 i3 i4 d0 d1 d2 d3 d4 d5 d6 d7 d8
            go_wp2_with fail
            refine step_end (d := ⟨wrap64 (p0 + 1), p1, p2, p3, p4, p5, p6, p7, p8⟩) (t := ⟨0, 0, 0⟩) HB6.out rfl rfl rfl fun h => ⟨⟨V0, fun _ => rfl, ?_⟩, h⟩
            rw [HST2.out]
            show _ = Ending.returned (.tuple #[coreV (reckon _ _ _ _ _), _])
            simp only [reckon, (by decide : ¬ ((2 : Int) = 1)), HVB.out, if_true, if_false]
            rw [← HC.out]
            rfl
        generalize hvb : Core.get ⟨pc, r0, r1, r2, r3, r4, r5, r6, r7⟩ mb = vb at *
        generalize hvc : Core.get ⟨pc, r0, r1, r2, r3, r4, r5, r6, r7⟩ mc = vc at *
        clear hvb hvc ga
        have hrk : ∀ v, (reckon v ⟨op, ma, mb, mc, imm⟩ ⟨pc, r0, r1, r2, r3, r4, r5, r6, r7⟩ tick self) = (Core.put ⟨pc, r0, r1, r2, r3, r4, r5, r6, r7⟩ ma v).next := fun v => by simp only [reckon, o1, o2, o32, o33, o22, o23, if_false]
        have HRK := Lib.hid hrk
        clear hrk
        by_cases ho : 3 ≤ op ∧ op ≤ 14
        · have hdo := fun W => (Alu.Do_any op vb vc W).mono fun e w' (h : _ ∧ W = w') => (⟨h.1, h.2.symm⟩ : _ ∧ w' = W)
          rw [show AluP.err op = 0 from if_pos ho] at hdo
          have hV := HV0.out
          generalize AluP.val op vb vc = vv at *
          obtain rfl := hV
          have ho1 := ho.1
          have ho2 := ho.2
          have HDO := Lib.hid hdo
          have HO := Lib.hid ho
          clear hdo ho
          go_wp2_with fail
          go_quiet (exact Calls.quiet_of_same (HDO.out _))
          go_wp2_with fail
          refine (HPUT.out _ (BS.out.go (Kept.drewN (Kept.refl _ _) nq)) _ _).mono ?_
          rintro e w5 ⟨rfl, ⟨p0, p1, p2, p3, p4, p5, p6, p7, p8⟩, hc', hB⟩
          obtain ⟨d0, d1, d2, d3, d4, d5, d6, d7, d8⟩ := Blk.core hB.b0
          have HB := Lib.hid hB
          have HC := Lib.hid hc'
          clear hB hc'
          go_wp2_with fail
          have hnx := next_any ⟨p0, p1, p2, p3, p4, p5, p6, p7, p8⟩ w5
          unfold coreV coreC Core.next at hnx
          simp only at hnx
          refine hnx.mono ?_
          rintro e w6 ⟨rfl, hw6⟩
          have hB6 := HB.out.go hw6
          obtain ⟨f1, f2, e0, e1, e2, e3, e4, e5, e6, e7, e8, g0, g1, g2⟩ := hB6.fin
          have HB6 := Lib.hid hB6
          clear hB6 hnx hw6 i0 i1 i2 i3 i4 d0 d1 d2 d3 d4 d5 d6 d7 d8
          go_wp2_with fail
          refine step_end (d := ⟨wrap64 (p0 + 1), p1, p2, p3, p4, p5, p6, p7, p8⟩) (t := ⟨0, 0, 0⟩) HB6.out rfl rfl rfl fun h => ⟨⟨V0, fun _ => rfl, ?_⟩, h⟩
          rw [HST2.out]
          show _ = Ending.returned (.tuple #[coreV (reckon _ _ _ _ _), _])
          rw [HRK.out, ← HC.out]
          rfl
        · have hdo := fun W => (Alu.Do_any op vb vc W).mono fun e w' (h : _ ∧ W = w') => (⟨h.1, h.2.symm⟩ : _ ∧ w' = W)
          rw [show AluP.err op = 9 from AluP.err_else (by omega)] at hdo
          have HFIT := Lib.hid (show ∀ v, Fit op V0 v from fun v h => absurd h ho)
          generalize AluP.val op vb vc = vv at *
          have hflt := fun W => flt_some op vb vc W
          have HDO := Lib.hid hdo
          have HFLT := Lib.hid hflt
          clear hdo hflt
          clear ho
          go_wp2_with fail
          go_quiet (exact Calls.quiet_of_same (HDO.out _))
          go_wp2_with fail
          obtain ⟨W5, hW5⟩ : ∃ W5, W5 = W4.drewN nq := ⟨_, rfl⟩
          have hBS5 : Base w W5 ⟨pc, r0, r1, r2, r3, r4, r5, r6, r7⟩ := by rw [hW5]; exact BS.out.go (Kept.drewN (Kept.refl _ _) nq)
          have j0 : W5.cell? ⟨w1.heap.size, 0, none⟩ = some (.int .i64 op) := by rw [hW5]; exact i0
          have j1 : W5.cell? ⟨w1.heap.size, 1, none⟩ = some (.int .i64 (ma : Int)) := by rw [hW5]; exact i1
          have j2 : W5.cell? ⟨w1.heap.size, 2, none⟩ = some (.int .i64 (mb : Int)) := by rw [hW5]; exact i2
          have j3 : W5.cell? ⟨w1.heap.size, 3, none⟩ = some (.int .i64 (mc : Int)) := by rw [hW5]; exact i3
          have j5 : W5.cell? ⟨w3.heap.size + 1, mb, none⟩ = some (.int .i64 vb) := by rw [hW5]; exact gb
          have j6 : W5.cell? ⟨w3.heap.size + 1, mc, none⟩ = some (.int .i64 vc) := by rw [hW5]; exact gc
          have HALT := Lib.hid (show ∀ W, New W5 W → (New W5 W ∧ W.cell? ⟨w1.heap.size, 0, none⟩ = some (.int .i64 op) ∧ W.cell? ⟨w1.heap.size, 1, none⟩ = some (.int .i64 (ma : Int)) ∧ W.cell? ⟨w1.heap.size, 2, none⟩ = some (.int .i64 (mb : Int)) ∧ W.cell? ⟨w1.heap.size, 3, none⟩ = some (.int .i64 (mc : Int)) ∧ W.cell? ⟨w3.heap.size + 1, mb, none⟩ = some (.int .i64 vb) ∧ W.cell? ⟨w3.heap.size + 1, mc, none⟩ = some (.int .i64 vc)) from fun W h => ⟨h, New.holds h j0, New.holds h j1, New.holds h j2, New.holds h j3, New.holds h j5, New.holds h j6⟩)
          have hflt2 : ∀ W, New W5 W → Calls Try.prog 22 #[.int .i64 op, .int .i64 vb, .int .i64 vc] W fun e w' => (∃ v r : Int, e = .returned (.tuple #[.int .i64 v, .int .i64 r])) ∧ New W5 w' := fun W h => (HFLT.out W).mono fun e w' g => ⟨g.1, h.trans g.2⟩
          have HFLT2 := Lib.hid hflt2
          have HBS5 := Lib.hid hBS5
          clear hflt2 hBS5
          rw [← hW5]
          clear hW5 i0 i1 i2 i3 i4 gb gc
          go_region_held3 (fun W => New W5 W ∧ W.cell? ⟨w1.heap.size, 0, none⟩ = some (.int .i64 op) ∧ W.cell? ⟨w1.heap.size, 1, none⟩ = some (.int .i64 (ma : Int)) ∧ W.cell? ⟨w1.heap.size, 2, none⟩ = some (.int .i64 (mb : Int)) ∧ W.cell? ⟨w1.heap.size, 3, none⟩ = some (.int .i64 (mc : Int)) ∧ W.cell? ⟨w3.heap.size + 1, mb, none⟩ = some (.int .i64 vb) ∧ W.cell? ⟨w3.heap.size + 1, mc, none⟩ = some (.int .i64 vc)) (first | exact HALT.out _ (by assumption) | exact HALT.out _ (Kept.refl _ _).drew) (first | (go_at_call 22; refine (HFLT2.out _ (by first | assumption | exact (Kept.refl _ _).drew)).mono ?_; rintro e w5 ⟨⟨v, r, rfl⟩, hw5⟩))
          have x1 := New.holds hw5 j1
          have HW5 := Lib.hid hw5
          clear hw5
          clear j0 j1 j2 j3 j5 j6
          go_wp2_with fail
          refine (HPUT.out _ (HBS5.out.go HW5.out) _ _).mono ?_
          rintro e w8 ⟨rfl, ⟨p0, p1, p2, p3, p4, p5, p6, p7, p8⟩, hc', hB⟩
          obtain ⟨d0, d1, d2, d3, d4, d5, d6, d7, d8⟩ := Blk.core hB.b0
          have HB := Lib.hid hB
          have HC := Lib.hid hc'
          clear hB hc'
          go_wp2_with fail
          have hnx := next_any ⟨p0, p1, p2, p3, p4, p5, p6, p7, p8⟩ w8
          unfold coreV coreC Core.next at hnx
          simp only at hnx
          refine hnx.mono ?_
          rintro e w6 ⟨rfl, hw6⟩
          have hB6 := HB.out.go hw6
          obtain ⟨f1, f2, e0, e1, e2, e3, e4, e5, e6, e7, e8, g0, g1, g2⟩ := hB6.fin
          have HB6 := Lib.hid hB6
          clear hB6 hnx hw6 d0 d1 d2 d3 d4 d5 d6 d7 d8
          go_wp2_with fail
          refine step_end (d := ⟨wrap64 (p0 + 1), p1, p2, p3, p4, p5, p6, p7, p8⟩) (t := ⟨0, 0, 0⟩) HB6.out rfl rfl rfl fun h => ⟨⟨v, HFIT.out v, ?_⟩, h⟩
          rw [HST2.out]
          show _ = Ending.returned (.tuple #[coreV (reckon _ _ _ _ _), _])
          rw [HRK.out, ← HC.out]
          rfl
      · have hsz : w3.heap.size = w3.heap.size := rfl
        generalize hW3 : w3.alloc (.cells #[.int .i64 kd, .int .i64 to, .int .i64 vl] 28) = W3 at *
        obtain ⟨-, d0, d1, d2, d3, d4, d5, d6, d7, d8⟩ := HALL.out _ hw3b
        obtain ⟨f1, f2, e0, e1, e2, e3, e4, e5, e6, e7, e8, g0, g1, g2⟩ := HFIN.out _ hw3b
        have k0 : W3.cell? ⟨w3.heap.size, 0, none⟩ = some (.int .i64 kd) := BW.out.cell 0
        have k1 : W3.cell? ⟨w3.heap.size, 1, none⟩ = some (.int .i64 to) := BW.out.cell 1
        have k2 : W3.cell? ⟨w3.heap.size, 2, none⟩ = some (.int .i64 vl) := BW.out.cell 2
        have n1 : w.heap.size ≠ w.heap.size + 1 := by omega
        have n2 : w.heap.size ≠ w.heap.size + 1 + 1 := by omega
        have n3 : w3.heap.size ≠ w.heap.size + 1 := by omega
        have n4 : w3.heap.size ≠ w.heap.size + 1 + 1 := by omega
        have m1 := n1.symm
        have m2 := n2.symm
        have m3 := n3.symm
        have m4 := n4.symm
        have m5 : w.heap.size + 1 ≠ w.heap.size + 1 + 1 := by omega
        have m6 := m5.symm
        cases st
        · have hS : ∀ W, New W3 W → W.cell? ⟨w.heap.size, 0, none⟩ = some (.int .i64 pc) ∧ W.cell? ⟨w.heap.size, 1, none⟩ = some (.int .i64 r0) ∧ W.cell? ⟨w.heap.size, 2, none⟩ = some (.int .i64 r1) ∧ W.cell? ⟨w.heap.size, 3, none⟩ = some (.int .i64 r2) ∧ W.cell? ⟨w.heap.size, 4, none⟩ = some (.int .i64 r3) ∧ W.cell? ⟨w.heap.size, 5, none⟩ = some (.int .i64 r4) ∧ W.cell? ⟨w.heap.size, 6, none⟩ = some (.int .i64 r5) ∧ W.cell? ⟨w.heap.size, 7, none⟩ = some (.int .i64 r6) ∧ W.cell? ⟨w.heap.size, 8, none⟩ = some (.int .i64 r7) ∧ W.cell? ⟨w3.heap.size, 0, none⟩ = some (.int .i64 kd) ∧ W.cell? ⟨w3.heap.size, 1, none⟩ = some (.int .i64 to) ∧ W.cell? ⟨w3.heap.size, 2, none⟩ = some (.int .i64 vl) := fun W h => ⟨New.holds h d0, New.holds h d1, New.holds h d2, New.holds h d3, New.holds h d4, New.holds h d5, New.holds h d6, New.holds h d7, New.holds h d8, New.holds h k0, New.holds h k1, New.holds h k2⟩
          have hnext := fun W (h : New W3 W) => (next_any ⟨pc, r0, r1, r2, r3, r4, r5, r6, r7⟩ W).mono fun e w' (h2 : _ ∧ New W w') => (⟨h2.1, h.trans h2.2, HFIN.out w' ((hw3b.trans h).trans h2.2), hS w' (h.trans h2.2)⟩ : _ ∧ New W3 w' ∧ _ ∧ _)
          unfold coreV coreC Core.next at hnext
          simp only at hnext
          have HNEXT := Lib.hid hnext
          have HS := Lib.hid hS
          clear hnext hS
          clear e0 e1 e2 e3 e4 e5 e6 e7 e8 g0 g1 g2 f1 f2
          go_wp2_with fail
          go_region_with (go_at_call 15; refine (HNEXT.out _ (by with_reducible first | exact Kept.refl _ _ | exact Kept.drew (Kept.refl _ _) | assumption)).mono ?_; rintro e w5 ⟨rfl, hw5, ⟨f1, f2, e0, e1, e2, e3, e4, e5, e6, e7, e8, g0, g1, g2⟩, d0', d1', d2', d3', d4', d5', d6', d7', d8', k0', k1', k2'⟩)
          all_goals
            have hb5 := HBASE.out w5 (hw3b.trans hw5)
            go_wp2_with fail
            first
              | refine step_end (d := ⟨wrap64 (pc + 1), r0, r1, r2, r3, r4, r5, r6, r7⟩) (t := ⟨kd, to, vl⟩) hb5 rfl rfl rfl fun h => ⟨⟨V0, fun _ => rfl, ?_⟩, h⟩
              | refine step_drew (d := ⟨wrap64 (pc + 1), r0, r1, r2, r3, r4, r5, r6, r7⟩) (t := ⟨kd, to, vl⟩) hb5 rfl rfl rfl fun h => ⟨⟨V0, fun _ => rfl, ?_⟩, h⟩
            rw [HST2.out]
            rfl
        · go_wp2_with fail
          go_region_held3 (fun W => W.cell? ⟨w.heap.size, 0, none⟩ = some (.int .i64 pc) ∧ W.cell? ⟨w.heap.size, 1, none⟩ = some (.int .i64 r0) ∧ W.cell? ⟨w.heap.size, 2, none⟩ = some (.int .i64 r1) ∧ W.cell? ⟨w.heap.size, 3, none⟩ = some (.int .i64 r2) ∧ W.cell? ⟨w.heap.size, 4, none⟩ = some (.int .i64 r3) ∧ W.cell? ⟨w.heap.size, 5, none⟩ = some (.int .i64 r4) ∧ W.cell? ⟨w.heap.size, 6, none⟩ = some (.int .i64 r5) ∧ W.cell? ⟨w.heap.size, 7, none⟩ = some (.int .i64 r6) ∧ W.cell? ⟨w.heap.size, 8, none⟩ = some (.int .i64 r7) ∧ W.cell? ⟨w3.heap.size, 0, none⟩ = some (.int .i64 kd) ∧ W.cell? ⟨w3.heap.size, 1, none⟩ = some (.int .i64 to) ∧ W.cell? ⟨w3.heap.size, 2, none⟩ = some (.int .i64 vl)) (go_keep) (fail)
          have hb5 := HBASE.out W3 hw3b
          go_wp2_with fail
          refine step_drew (d := ⟨pc, r0, r1, r2, r3, r4, r5, r6, r7⟩) (t := ⟨kd, to, vl⟩) hb5 rfl rfl rfl fun h => ⟨⟨V0, fun _ => rfl, ?_⟩, h⟩
          rw [HST2.out]
          rfl
    · have hst : stepC V0 ⟨pc, r0, r1, r2, r3, r4, r5, r6, r7⟩ l tick self = (⟨pc, r0, r1, r2, r3, r4, r5, r6, r7⟩, ⟨1, 0, 0⟩) := by rw [HST.out, if_pos (.inr hce)]
      obtain ⟨f1, f2, e0, e1, e2, e3, e4, e5, e6, e7, e8, g0, g1, g2⟩ := HFIN.out _ hw2a
      generalize check ⟨op, a, b, cc, imm⟩ n 8 = ce at *
      have hcd : (ce == 0) = false := by simpa using hce
      have hcn : (ce != 0) = true := by simpa using hce
      have HST_ := Lib.hid hst
      have HCE := Lib.hid hce
      clear hst hce
      go_wp2_with fail
      refine step_end (d := ⟨pc, r0, r1, r2, r3, r4, r5, r6, r7⟩) (t := ⟨1, 0, 0⟩) (HBASE.out _ hw2a) rfl rfl rfl fun h => ⟨⟨V0, fun _ => rfl, ?_⟩, h⟩
      rw [HST_.out]
      rfl
end Go.Proofs.Ytilioiebecpknaa.Cpu
