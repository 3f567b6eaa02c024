/- The reference's small functions of layer 13: Next, put, At. -/
import Derived.Test.YtilioiebecpknaaCpuT
namespace Go.Proofs.Ytilioiebecpknaa.CpuR
open Go.RowKit Go.Fb Go.BytesP Go.CodeP Go.CpuP _root_.Go.Proofs.Ytilioiebecpknaa.Code _root_.Go.Proofs.Ytilioiebecpknaa.Cpu
set_option linter.unusedVariables false
/-- How the world stands behind Step's first region. -/
structure Base (w W : World) (c : Core) : Prop where
  new : New w W
  b0 : Blk W w.heap.size 34 (coreC c)
  b1 : Blk W (w.heap.size + 1) 34 (coreC ⟨0, 0, 0, 0, 0, 0, 0, 0, 0⟩)
  b2 : Blk W (w.heap.size + 1 + 1) 35 #[.int .i64 0, .int .i64 0, .int .i64 0]
  size : w.heap.size + 1 + 1 + 1 ≤ W.heap.size
theorem Base.go {w W W' : World} {c : Core} (h : Base w W c) (hk : New W W') : Base w W' c :=
  ⟨h.new.trans hk, h.b0.kept hk id, h.b1.kept hk id, h.b2.kept hk id, Nat.le_trans h.size hk.size⟩
theorem Base.made (w : World) (c : Core) : Base w (((w.alloc (.cells (coreC c) 34)).alloc (.cells (coreC ⟨0, 0, 0, 0, 0, 0, 0, 0, 0⟩) 34)).alloc (.cells #[.int .i64 0, .int .i64 0, .int .i64 0] 35)) c :=
  ⟨((Kept.refl _ _).alloc _).alloc _ |>.alloc _, ((Blk.made _ _ _).alloc _).alloc _, (Blk.made_at _ _ _ _ (size1 _ _)).alloc _, Blk.made_at _ _ _ _ (by rw [← size1, ← size1]), by rw [← size1, ← size1, ← size1]; exact Nat.le_refl _⟩
theorem Base.put {w W W' : World} {c c' : Core} (h : Base w W c) (hk : Kept (fun k => k = w.heap.size) W W') (hb : Blk W' w.heap.size 34 (coreC c')) : Base w W' c' :=
  ⟨h.new.step hk fun i hi e => absurd e (by omega), hb, h.b1.kept hk (by omega), h.b2.kept hk (by omega), Nat.le_trans h.size hk.size⟩
theorem run_results {tmps : Array Value} {W : World} {x y : Nat} {d : Core} {t : Want} (h8 : tmps.getD 8 undef = .pointer (some ⟨x, 0, none⟩)) (h9 : tmps.getD 9 undef = .pointer (some ⟨y, 0, none⟩))
    (b1 : Blk W x 34 (coreC d)) (b2 : Blk W y 35 (wantC t)) : (results Try.f8 tmps).run Try.prog W = .ok (.tuple #[coreV d, wantV t]) W := by
  obtain ⟨d0, d1, d2, d3, d4, d5, d6, d7, d8⟩ := Blk.core b1
  have g0 : W.cell? ⟨y, 0, none⟩ = some (.int .i64 t.kind) := b2.cell 0
  have g1 : W.cell? ⟨y, 1, none⟩ = some (.int .i64 t.to) := b2.cell 1
  have g2 : W.cell? ⟨y, 2, none⟩ = some (.int .i64 t.val) := b2.cell 2
  rw [Array.getD_eq_getD_getElem?] at h8 h9
  simp [results, Try.results8, go_sem, h8, h9, d0, d1, d2, d3, d4, d5, d6, d7, d8, g0, g1, g2, coreV, coreC, wantV]
theorem step_fin {w W : World} {d : Core} {t : Want} {a : Act} {R : Ending → World → Prop} (b1 : Blk W (w.heap.size + 1) 34 (coreC d)) (b2 : Blk W (w.heap.size + 1 + 1) 35 (wantC t)) (hN : New w W)
    (h8 : a.tmps.getD 8 undef = .pointer (some ⟨w.heap.size + 1, 0, none⟩)) (h9 : a.tmps.getD 9 undef = .pointer (some ⟨w.heap.size + 1 + 1, 0, none⟩)) (hd : a.defers = [])
    (h : R (.returned (.tuple #[coreV d, wantV t])) W) : bodyPost Try.prog Try.f8 R .ret a W := by
  exact bodyPost_ret (run_results h8 h9 b1 b2) hd h
theorem step_drew {w W : World} {c d : Core} {t : Want} {a : Act} {R : Ending → World → Prop} (hb : Base w W c) (h8 : a.tmps.getD 8 undef = .pointer (some ⟨w.heap.size + 1, 0, none⟩)) (h9 : a.tmps.getD 9 undef = .pointer (some ⟨w.heap.size + 1 + 1, 0, none⟩)) (hd : a.defers = [])
    (h : New w (laid W (w.heap.size + 1) (w.heap.size + 1 + 1) d t).drew → R (.returned (.tuple #[coreV d, wantV t])) (laid W (w.heap.size + 1) (w.heap.size + 1 + 1) d t).drew) :
    bodyPost Try.prog Try.f8 R .ret a (laid W (w.heap.size + 1) (w.heap.size + 1 + 1) d t).drew := by
  refine bodyPost_ret (run_results h8 h9 (Blk.ofdrew (laid_core hb.b1 (by omega))) (Blk.ofdrew (laid_want (s := ⟨0, 0, 0⟩) hb.b2 (by omega)))) hd (h (laid_kept hb.new (by omega) (by omega)).drew)
theorem Base.fin {w W : World} {c : Core} (h : Base w W c) : (∀ j, W.frozen? ⟨w.heap.size + 1, j, none⟩ = false) ∧ (∀ j, W.frozen? ⟨w.heap.size + 1 + 1, j, none⟩ = false) ∧
      W.cell? ⟨w.heap.size + 1, 0, none⟩ = some (.int .i64 0) ∧ W.cell? ⟨w.heap.size + 1, 1, none⟩ = some (.int .i64 0) ∧ W.cell? ⟨w.heap.size + 1, 2, none⟩ = some (.int .i64 0) ∧ W.cell? ⟨w.heap.size + 1, 3, none⟩ = some (.int .i64 0) ∧ W.cell? ⟨w.heap.size + 1, 4, none⟩ = some (.int .i64 0) ∧ W.cell? ⟨w.heap.size + 1, 5, none⟩ = some (.int .i64 0) ∧ W.cell? ⟨w.heap.size + 1, 6, none⟩ = some (.int .i64 0) ∧ W.cell? ⟨w.heap.size + 1, 7, none⟩ = some (.int .i64 0) ∧ W.cell? ⟨w.heap.size + 1, 8, none⟩ = some (.int .i64 0) ∧
      W.cell? ⟨w.heap.size + 1 + 1, 0, none⟩ = some (.int .i64 0) ∧ W.cell? ⟨w.heap.size + 1 + 1, 1, none⟩ = some (.int .i64 0) ∧ W.cell? ⟨w.heap.size + 1 + 1, 2, none⟩ = some (.int .i64 0) :=
  ⟨h.b1.free, h.b2.free, h.b1.cell 0, h.b1.cell 1, h.b1.cell 2, h.b1.cell 3, h.b1.cell 4, h.b1.cell 5, h.b1.cell 6, h.b1.cell 7, h.b1.cell 8, h.b2.cell 0, h.b2.cell 1, h.b2.cell 2⟩
/-- The end: a core and a want lie in the results' cells. -/
theorem step_end {w W : World} {c d : Core} {t : Want} {a : Act} {R : Ending → World → Prop} (hb : Base w W c) (h8 : a.tmps.getD 8 undef = .pointer (some ⟨w.heap.size + 1, 0, none⟩)) (h9 : a.tmps.getD 9 undef = .pointer (some ⟨w.heap.size + 1 + 1, 0, none⟩)) (hd : a.defers = [])
    (h : New w (laid W (w.heap.size + 1) (w.heap.size + 1 + 1) d t) → R (.returned (.tuple #[coreV d, wantV t])) (laid W (w.heap.size + 1) (w.heap.size + 1 + 1) d t)) :
    bodyPost Try.prog Try.f8 R .ret a (laid W (w.heap.size + 1) (w.heap.size + 1 + 1) d t) := by
  refine bodyPost_ret (run_results h8 h9 (laid_core hb.b1 (by omega)) (laid_want (s := ⟨0, 0, 0⟩) hb.b2 (by omega))) hd (h (laid_kept hb.new (by omega) (by omega)))
set_option maxHeartbeats 1000000 in
theorem rnext_any (c : Core) (w : World) : Calls Try.prog 16 #[coreV c] w fun e w' => e = .returned (coreV c.next) ∧ New w w' := by
  obtain ⟨pc, r0, r1, r2, r3, r4, r5, r6, r7⟩ := c
  unfold coreV coreC
  go_enter Try.func16, Try.ntmps16
  go_wp2
  refine bodyPost_ret (v := coreV (Core.mk (wrap64 (pc + 1)) r0 r1 r2 r3 r4 r5 r6 r7)) (by simp [results, Try.results16, go_sem, coreV, coreC]) rfl ⟨rfl, ((Kept.refl _ _).alloc _).alloc _⟩
set_option maxHeartbeats 1000000 in
theorem rput_any (c : Core) (b : Nat) (i v : Int) (w : World) (hb : Blk w b 34 (coreC c)) :
    Calls Try.prog 25 #[.pointer (some ⟨b, 0, none⟩), .int .i64 i, .int .i64 v] w fun e w' => e = .returned (.tuple #[]) ∧ Kept (fun k => k = b) w w' ∧ Blk w' b 34 (coreC (c.put i v)) := by
  have h1 : ∀ k, w.frozen? ⟨b, k, none⟩ = false := hb.free
  by_cases h0 : i < 0 ∨ 8 ≤ i
  · rw [Core.put_out _ _ _ h0]
    have HB := Lib.hid hb
    clear hb
    go_enter Try.func25, Try.ntmps25
    go_wp2
    all_goals (go_end0; exact ⟨rfl, Kept.refl _ _, HB.out⟩)
  · obtain ⟨m, rfl, hm⟩ : ∃ m : Nat, i = (m : Int) ∧ m < 8 := ⟨i.toNat, by omega, by omega⟩
    have hget := (hb.cell (1 + m)).trans (coreC_get c m hm)
    have hput := (hb.set (i := 1 + m) (.int .i64 v))
    rw [coreC_put c m v hm] at hput
    have HB := Lib.hid hb
    have HPUT := Lib.hid hput
    clear hb hput
    clear h0
    go_enter Try.func25, Try.ntmps25
    go_wp2
    go_end0
    exact ⟨rfl, Kept.setCell (g := fun k => k = b) (Kept.refl _ _) (.inr rfl) _, HPUT.out⟩
/-- An instruction laid into its cells. -/
def insC (x : Ins) : Array Value := #[.int .i64 x.op, .int .i64 x.a, .int .i64 x.b, .int .i64 x.c, .int .i64 x.imm]
def laidI (W : World) (p : Nat) (x : Ins) : World :=
  ((((W.setCell ⟨p, 0, none⟩ (.int .i64 x.op)).setCell ⟨p, 1, none⟩ (.int .i64 x.a)).setCell ⟨p, 2, none⟩ (.int .i64 x.b)).setCell ⟨p, 3, none⟩ (.int .i64 x.c)).setCell ⟨p, 4, none⟩ (.int .i64 x.imm)
theorem laidI_blk {W : World} {p : Nat} {T : TypeId} {y x : Ins} (b : Blk W p T (insC y)) : Blk (laidI W p x) p T (insC x) := by
  have b1 := ((((b.set (i := 0) (.int .i64 x.op)).set (i := 1) (.int .i64 x.a)).set (i := 2) (.int .i64 x.b)).set (i := 3) (.int .i64 x.c)).set (i := 4) (.int .i64 x.imm)
  have : (((((insC y).setIfInBounds 0 (.int .i64 x.op)).setIfInBounds 1 (.int .i64 x.a)).setIfInBounds 2 (.int .i64 x.b)).setIfInBounds 3 (.int .i64 x.c)).setIfInBounds 4 (.int .i64 x.imm) = insC x := by simp [insC]
  rw [this] at b1
  exact b1
theorem laidI_kept {w W : World} {p : Nat} {x : Ins} (h : New w W) (hp : w.heap.size ≤ p) : New w (laidI W p x) :=
  ((((h.setCell (.inl hp) _).setCell (.inl hp) _).setCell (.inl hp) _).setCell (.inl hp) _).setCell (.inl hp) _
theorem run_at {tmps : Array Value} {W : World} {p : Nat} {x : Ins} {is : Bool} (h4 : tmps.getD 4 undef = .pointer (some ⟨p, 0, none⟩)) (h5 : tmps.getD 5 undef = .bool is) (b : Blk W p 32 (insC x)) :
    (results Try.f23 tmps).run Try.prog W = .ok (.tuple #[agg x, .bool is]) W := by
  have d0 : W.cell? ⟨p, 0, none⟩ = some (.int .i64 x.op) := b.cell 0
  have d1 : W.cell? ⟨p, 1, none⟩ = some (.int .i64 x.a) := b.cell 1
  have d2 : W.cell? ⟨p, 2, none⟩ = some (.int .i64 x.b) := b.cell 2
  have d3 : W.cell? ⟨p, 3, none⟩ = some (.int .i64 x.c) := b.cell 3
  have d4 : W.cell? ⟨p, 4, none⟩ = some (.int .i64 x.imm) := b.cell 4
  rw [Array.getD_eq_getD_getElem?] at h4 h5
  simp [results, Try.results23, go_sem, h4, h5, d0, d1, d2, d3, d4, agg]
theorem at_end {w W : World} {p : Nat} {y x : Ins} {is : Bool} {a : Act} {R : Ending → World → Prop} (hn : New w W) (hp : w.heap.size ≤ p) (b : Blk W p 32 (insC y)) (h4 : a.tmps.getD 4 undef = .pointer (some ⟨p, 0, none⟩)) (h5 : a.tmps.getD 5 undef = .bool is) (hd : a.defers = [])
    (h : New w (laidI W p x) → R (.returned (.tuple #[agg x, .bool is])) (laidI W p x)) : bodyPost Try.prog Try.f23 R .ret a (laidI W p x) :=
  bodyPost_ret (run_at h4 h5 (laidI_blk b)) hd (h (laidI_kept hn hp))
theorem at_drew {w W : World} {p : Nat} {y x : Ins} {is : Bool} {a : Act} {R : Ending → World → Prop} (hn : New w W) (hp : w.heap.size ≤ p) (b : Blk W p 32 (insC y)) (h4 : a.tmps.getD 4 undef = .pointer (some ⟨p, 0, none⟩)) (h5 : a.tmps.getD 5 undef = .bool is) (hd : a.defers = [])
    (h : New w (laidI W p x).drew → R (.returned (.tuple #[agg x, .bool is])) (laidI W p x).drew) : bodyPost Try.prog Try.f23 R .ret a (laidI W p x).drew :=
  bodyPost_ret (run_at h4 h5 (Cpu.Blk.ofdrew (laidI_blk b))) hd (h (laidI_kept hn hp).drew)
/-- May the instruction at a core's place stand there? -/
def isR (c : Core) (l : List Ins) : Bool := (atPC c l).2 && (check (atPC c l).1 l.length 8 == 0)
set_option maxHeartbeats 2000000 in
set_option maxRecDepth 100000 in
theorem rat_any (c : Core) (A : Option Addr) (n k : Nat) (l : List Ins) (w : World) (hl : SliceOf repIns w w.heap.size A n k l) :
    Calls Try.prog 23 #[coreV c, .slice A n k] w fun e w' => e = .returned (.tuple #[agg (atPC c l).1, .bool (isR c l)]) ∧ New w w' := by
  have hn := hl.len
  by_cases h0 : c.pc < 0 ∨ (l.length : Int) ≤ c.pc
  · have E : atPC c l = (⟨0, 0, 0, 0, 0⟩, false) := if_pos h0
    have E2 : isR c l = false := by unfold isR; rw [E]; rfl
    rw [E, E2]
    obtain ⟨pc, r0, r1, r2, r3, r4, r5, r6, r7⟩ := c
    unfold coreV coreC
    simp only at h0
    have HL := Lib.hid hl
    have E_ := Lib.hid E
    have E2_ := Lib.hid E2
    clear hl E E2
    rw [← hn] at h0
    clear hn
    go_enter Try.func23, Try.ntmps23
    go_wp2
    all_goals
      refine bodyPost_ret (v := .tuple #[agg ⟨0, 0, 0, 0, 0⟩, .bool false]) (by simp [results, Try.results23, go_sem, agg]) rfl ⟨rfl, ((Kept.refl _ _).alloc _).alloc _⟩
  · have hp : ∃ m : Nat, c.pc = (m : Int) ∧ m < l.length := ⟨c.pc.toNat, by omega, by omega⟩
    obtain ⟨m, hm, hml⟩ := hp
    obtain ⟨b, o, rfl, hb', hc⟩ := ins_at hl (by omega)
    obtain ⟨c0, c1, c2, c3, c4⟩ := hc m hml
    have E : atPC c l = (l[m], true) := by unfold atPC; rw [if_neg h0, hm]; simp [List.getElem?_eq_getElem hml]
    have E2 : isR c l = (check l[m] n 8 == 0) := by unfold isR; rw [E, hn]; rfl
    rw [E, E2]
    have hck := fun W => ref_check l[m] n 8 W
    obtain ⟨pc, r0, r1, r2, r3, r4, r5, r6, r7⟩ := c
    unfold coreV coreC
    simp only at h0 hm
    subst hm
    have hbd := hl.bound
    have HL := Lib.hid hl
    have E_ := Lib.hid E
    have E2_ := Lib.hid E2
    have HC := Lib.hid hc
    clear hl E E2 hc
    have hmn : m < n := by omega
    clear h0
    have HNL := Lib.hid hn
    clear hn
    generalize l[m] = x at *
    generalize check x n 8 = ck at *
    obtain ⟨op, a, xb, cc, imm⟩ := x
    simp only at c0 c1 c2 c3 c4
    unfold agg at hck
    simp only at hck
    have HCK := Lib.hid hck
    clear hck
    go_enter Try.func23, Try.ntmps23
    go_upto_region 4 with (fail)
    generalize hW : ((w.alloc (.cells #[.int .i64 (m : Int), .int .i64 r0, .int .i64 r1, .int .i64 r2, .int .i64 r3, .int .i64 r4, .int .i64 r5, .int .i64 r6, .int .i64 r7] 34)).alloc (.cells #[.int .i64 0, .int .i64 0, .int .i64 0, .int .i64 0, .int .i64 0] 32)).alloc (.cells #[.int .i64 op, .int .i64 a, .int .i64 xb, .int .i64 cc, .int .i64 imm] 32) = W
    have s0 := size1 w (.cells #[.int .i64 (m : Int), .int .i64 r0, .int .i64 r1, .int .i64 r2, .int .i64 r3, .int .i64 r4, .int .i64 r5, .int .i64 r6, .int .i64 r7] 34)
    have b1 : Blk W (w.heap.size + 1) 32 (insC ⟨0, 0, 0, 0, 0⟩) := by subst hW; exact (Blk.made_at _ _ _ _ s0).alloc _
    have b2 : Blk W (w.heap.size + 1 + 1) 32 #[.int .i64 op, .int .i64 a, .int .i64 xb, .int .i64 cc, .int .i64 imm] := by subst hW; exact Blk.made_at _ _ _ _ (by rw [← size1, ← size1])
    have hN : New w W := by subst hW; exact (((Kept.refl _ _).alloc _).alloc _).alloc _
    clear hW s0
    have hS : ∀ w', New W w' → (∀ j, w'.frozen? ⟨w.heap.size + 1, j, none⟩ = false) ∧ w'.cell? ⟨w.heap.size + 1, 0, none⟩ = some (.int .i64 0) ∧ w'.cell? ⟨w.heap.size + 1, 1, none⟩ = some (.int .i64 0) ∧ w'.cell? ⟨w.heap.size + 1, 2, none⟩ = some (.int .i64 0) ∧ w'.cell? ⟨w.heap.size + 1, 3, none⟩ = some (.int .i64 0) ∧ w'.cell? ⟨w.heap.size + 1, 4, none⟩ = some (.int .i64 0) ∧ w'.cell? ⟨w.heap.size + 1 + 1, 0, none⟩ = some (.int .i64 op) ∧ w'.cell? ⟨w.heap.size + 1 + 1, 1, none⟩ = some (.int .i64 a) ∧ w'.cell? ⟨w.heap.size + 1 + 1, 2, none⟩ = some (.int .i64 xb) ∧ w'.cell? ⟨w.heap.size + 1 + 1, 3, none⟩ = some (.int .i64 cc) ∧ w'.cell? ⟨w.heap.size + 1 + 1, 4, none⟩ = some (.int .i64 imm) := fun w' h =>
      have b3 := b1.kept h id
      have b4 := b2.kept h id
      ⟨b3.free, b3.cell 0, b3.cell 1, b3.cell 2, b3.cell 3, b3.cell 4, b4.cell 0, b4.cell 1, b4.cell 2, b4.cell 3, b4.cell 4⟩
    have hck2 : ∀ w', New W w' → Calls Try.prog 34 #[.agg #[.int .i64 op, .int .i64 a, .int .i64 xb, .int .i64 cc, .int .i64 imm], .int .i64 n, .int .i64 8] w' fun e w'' => e = .returned (.int .i64 ck) ∧ New W w'' := fun w' h => (HCK.out w').mono fun e w'' g => ⟨g.1, h.trans g.2⟩
    obtain ⟨f1, e0, e1, e2, e3, e4, i0, i1, i2, i3, i4⟩ := hS W (Kept.refl _ _)
    have HS := Lib.hid hS
    have B1 := Lib.hid b1
    have B2 := Lib.hid b2
    have HN := Lib.hid hN
    have HCK2 := Lib.hid hck2
    clear hS b1 b2 hN hck2
    clear c0 c1 c2 c3 c4
    go_region_with (go_at_call 34; refine (HCK2.out _ (by with_reducible first | exact Kept.refl _ _ | exact Kept.drew (Kept.refl _ _) | assumption)).mono ?_; rintro e w5 ⟨rfl, hw5⟩; obtain ⟨f1', e0', e1', e2', e3', e4', i0', i1', i2', i3', i4'⟩ := HS.out _ hw5)
    all_goals
      go_wp2_with fail
      have hn5 := HN.out.trans hw5
      have hb5 := B1.out.kept hw5 id
      first
        | refine at_end (x := ⟨op, a, xb, cc, imm⟩) (y := ⟨0, 0, 0, 0, 0⟩) hn5 (by omega) hb5 rfl rfl rfl fun h => ⟨rfl, h⟩
        | refine at_drew (x := ⟨op, a, xb, cc, imm⟩) (y := ⟨0, 0, 0, 0, 0⟩) hn5 (by omega) hb5 rfl rfl rfl fun h => ⟨rfl, h⟩
end Go.Proofs.Ytilioiebecpknaa.CpuR
