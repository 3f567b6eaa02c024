/- The walks of package cpu (layer 13): at, put, Next, wants. -/
import Derived.Test.YtilioiebecpknaaCpuP
import Derived.Test.YtilioiebecpknaaCodeI
import Derived.Test.YtilioiebecpknaaAluD
import Derived.Deep.RegionHeld3
namespace Go.Proofs.Ytilioiebecpknaa.Cpu
open Go.RowKit Go.Fb Go.BytesP Go.CodeP Go.CpuP _root_.Go.Proofs.Ytilioiebecpknaa.Code
set_option linter.unusedVariables false

/-- A core, as a value. -/
def coreC (c : Core) : Array Value := #[.int .i64 c.pc, .int .i64 c.r0, .int .i64 c.r1, .int .i64 c.r2, .int .i64 c.r3, .int .i64 c.r4, .int .i64 c.r5, .int .i64 c.r6, .int .i64 c.r7]
def coreV (c : Core) : Value := .agg (coreC c)
def regsC (c : Core) : Array Value := #[.int .i64 c.r0, .int .i64 c.r1, .int .i64 c.r2, .int .i64 c.r3, .int .i64 c.r4, .int .i64 c.r5, .int .i64 c.r6, .int .i64 c.r7]
def wantV (t : Want) : Value := .agg #[.int .i64 t.kind, .int .i64 t.to, .int .i64 t.val]
set_option maxHeartbeats 1000000 in
theorem next_any (c : Core) (w : World) : Calls Try.prog 15 #[coreV c] w fun e w' => e = .returned (coreV c.next) ∧ New w w' := by
  obtain ⟨pc, r0, r1, r2, r3, r4, r5, r6, r7⟩ := c
  unfold coreV coreC
  go_enter Try.func15, Try.ntmps15
  go_wp2
  refine bodyPost_ret (v := coreV (Core.mk (wrap64 (pc + 1)) r0 r1 r2 r3 r4 r5 r6 r7)) (by simp [results, Try.results15, go_sem, coreV, coreC]) rfl ⟨rfl, ((Kept.refl _ _).alloc _).alloc _⟩
set_option maxHeartbeats 1000000 in
theorem at_any (c : Core) (A : Option Addr) (n k : Nat) (l : List Ins) (w : World) (hl : SliceOf repIns w w.heap.size A n k l) :
    Calls Try.prog 17 #[coreV c, .slice A n k] w fun e w' => e = .returned (.tuple #[agg (atPC c l).1, .bool (atPC c l).2]) ∧ New w w' := by
  have hn := hl.len
  by_cases h0 : c.pc < 0 ∨ (l.length : Int) ≤ c.pc
  · have E : atPC c l = (⟨0, 0, 0, 0, 0⟩, false) := if_pos h0
    rw [E]
    obtain ⟨pc, r0, r1, r2, r3, r4, r5, r6, r7⟩ := c
    unfold coreV coreC
    simp only at h0
    have HL := Lib.hid hl
    have E_ := Lib.hid E
    clear hl E
    rw [← hn] at h0
    clear hn
    go_enter Try.func17, Try.ntmps17
    go_wp2
    all_goals
      refine bodyPost_ret (v := .tuple #[agg ⟨0, 0, 0, 0, 0⟩, .bool false]) (by simp [results, Try.results17, go_sem, agg]) rfl ⟨rfl, ((Kept.refl _ _).alloc _).alloc _⟩
  · have hp : ∃ m : Nat, c.pc = (m : Int) ∧ m < l.length := ⟨c.pc.toNat, by omega, by omega⟩
    obtain ⟨m, hm, hml⟩ := hp
    obtain ⟨b, o, rfl, hb', hc⟩ := ins_at hl (by omega)
    obtain ⟨c0, c1, c2, c3, c4⟩ := hc m hml
    have E : atPC c l = (l[m], true) := by unfold atPC; rw [if_neg h0, hm]; simp [List.getElem?_eq_getElem hml]
    rw [E]
    obtain ⟨pc, r0, r1, r2, r3, r4, r5, r6, r7⟩ := c
    unfold coreV coreC
    simp only at h0 hm
    subst hm
    have HL := Lib.hid hl
    have E_ := Lib.hid E
    have HC := Lib.hid hc
    clear hl E hc
    have hmn : m < n := by omega
    clear h0
    go_enter Try.func17, Try.ntmps17
    go_wp2
    refine bodyPost_ret (v := .tuple #[agg l[m], .bool true]) (by simp [results, Try.results17, go_sem, agg]) rfl ⟨rfl, ((Kept.refl _ _).alloc _).alloc _⟩
theorem coreC_get (c : Core) (m : Nat) (h : m < 8) : (coreC c)[1 + m]? = some (.int .i64 (c.get m)) := by
  obtain h | h | h | h | h | h | h | h : m = 0 ∨ m = 1 ∨ m = 2 ∨ m = 3 ∨ m = 4 ∨ m = 5 ∨ m = 6 ∨ m = 7 := by omega
  all_goals (subst h; rfl)
theorem regsC_get (c : Core) (m : Nat) (h : m < 8) : (regsC c)[m]? = some (.int .i64 (c.get m)) := by
  obtain h | h | h | h | h | h | h | h : m = 0 ∨ m = 1 ∨ m = 2 ∨ m = 3 ∨ m = 4 ∨ m = 5 ∨ m = 6 ∨ m = 7 := by omega
  all_goals (subst h; rfl)
theorem coreC_put (c : Core) (m : Nat) (v : Int) (h : m < 8) : (coreC c).setIfInBounds (1 + m) (.int .i64 v) = coreC (c.put m v) := by
  obtain h | h | h | h | h | h | h | h : m = 0 ∨ m = 1 ∨ m = 2 ∨ m = 3 ∨ m = 4 ∨ m = 5 ∨ m = 6 ∨ m = 7 := by omega
  all_goals (subst h; rfl)
set_option maxHeartbeats 1000000 in
theorem put_any (c : Core) (b : Nat) (i v : Int) (w : World) (hb : Blk w b 25 (coreC c)) :
    Calls Try.prog 20 #[.pointer (some ⟨b, 0, none⟩), .int .i64 i, .int .i64 v] w fun e w' => e = .returned (.tuple #[]) ∧ Kept (fun k => k = b) w w' ∧ Blk w' b 25 (coreC (c.put i v)) := by
  have h1 : ∀ k, w.frozen? ⟨b, k, none⟩ = false := hb.free
  by_cases h0 : i < 0 ∨ 8 ≤ i
  · rw [Core.put_out _ _ _ h0]
    have HB := Lib.hid hb
    clear hb
    go_enter Try.func20, Try.ntmps20
    go_wp2
    all_goals (go_end0; exact ⟨rfl, Kept.refl _ _, HB.out⟩)
  · obtain ⟨m, rfl, hm⟩ : ∃ m : Nat, i = (m : Int) ∧ m < 8 := ⟨i.toNat, by omega, by omega⟩
    have hget := (hb.cell (1 + m)).trans (coreC_get c m hm)
    have hput := (hb.set (i := 1 + m) (.int .i64 v))
    rw [coreC_put c m v hm] at hput
    have HB := Lib.hid hb
    have HPUT := Lib.hid hput
    clear hb hput
    clear h0
    go_enter Try.func20, Try.ntmps20
    go_wp2
    go_end0
    exact ⟨rfl, Kept.setCell (g := fun k => k = b) (Kept.refl _ _) (.inr rfl) _, HPUT.out⟩
theorem regsL_get (c : Core) (m : Nat) (h : m < 8) (hh) : ([.int .i64 c.r0, .int .i64 c.r1, .int .i64 c.r2, .int .i64 c.r3, .int .i64 c.r4, .int .i64 c.r5, .int .i64 c.r6, .int .i64 c.r7] : List Value)[m]'hh = .int .i64 (c.get m) := by
  obtain h | h | h | h | h | h | h | h : m = 0 ∨ m = 1 ∨ m = 2 ∨ m = 3 ∨ m = 4 ∨ m = 5 ∨ m = 6 ∨ m = 7 := by omega
  all_goals (subst h; rfl)
set_option maxHeartbeats 1000000 in
theorem wants_any (x : Ins) (c : Core) (w : World) (ha : 0 ≤ x.a ∧ x.a < 8) (hb : 0 ≤ x.b ∧ x.b < 8) (hc : 0 ≤ x.c ∧ x.c < 8) :
    Calls Try.prog 19 #[agg x, .agg (regsC c)] w fun e w' => e = .returned (.tuple #[wantV (wants x c).1, .bool (wants x c).2.1, .bool (wants x c).2.2]) ∧ New w w' := by
  obtain ⟨op, a, b, cc, imm⟩ := x
  obtain ⟨ma, rfl, ka⟩ : ∃ m : Nat, a = (m : Int) ∧ m < 8 := ⟨a.toNat, by simp only at ha; omega, by simp only at ha; omega⟩
  obtain ⟨mb, rfl, kb⟩ : ∃ m : Nat, b = (m : Int) ∧ m < 8 := ⟨b.toNat, by simp only at hb; omega, by simp only at hb; omega⟩
  obtain ⟨mc, rfl, kc⟩ : ∃ m : Nat, cc = (m : Int) ∧ m < 8 := ⟨cc.toNat, by simp only at hc; omega, by simp only at hc; omega⟩
  clear ha hb hc
  have ga := regsL_get c ma ka
  have gb := regsC_get c mb kb
  have gc := regsC_get c mc kc
  by_cases h24 : op = 24
  · subst h24
    have E : wants ⟨24, ma, mb, mc, imm⟩ c = (⟨2, c.get mb, c.get mc⟩, true, true) := rfl
    rw [E]
    generalize c.get mb = vb at *
    generalize c.get mc = vc at *
    unfold regsC at *
    unfold agg
    clear ga E
    go_enter Try.func19, Try.ntmps19
    go_wp2
    generalize hW : ((w.alloc (.cells #[.int .i64 24, .int .i64 (ma : Int), .int .i64 (mb : Int), .int .i64 (mc : Int), .int .i64 imm] 32)).alloc (.cells #[.int .i64 c.r0, .int .i64 c.r1, .int .i64 c.r2, .int .i64 c.r3, .int .i64 c.r4, .int .i64 c.r5, .int .i64 c.r6, .int .i64 c.r7] 23)).alloc (.cells #[.int .i64 0, .int .i64 0, .int .i64 0] 28) = W
    have s0 := size1 w (.cells #[.int .i64 24, .int .i64 (ma : Int), .int .i64 (mb : Int), .int .i64 (mc : Int), .int .i64 imm] 32)
    have b0 : Blk W w.heap.size 32 #[.int .i64 24, .int .i64 (ma : Int), .int .i64 (mb : Int), .int .i64 (mc : Int), .int .i64 imm] := by subst hW; exact ((Blk.made _ _ _).alloc _).alloc _
    have b1 : Blk W (w.heap.size + 1) 23 #[.int .i64 c.r0, .int .i64 c.r1, .int .i64 c.r2, .int .i64 c.r3, .int .i64 c.r4, .int .i64 c.r5, .int .i64 c.r6, .int .i64 c.r7] := by subst hW; exact (Blk.made_at _ _ _ _ s0).alloc _
    have b2 : Blk W (w.heap.size + 1 + 1) 28 #[.int .i64 0, .int .i64 0, .int .i64 0] := by subst hW; exact Blk.made_at _ _ _ _ (by rw [← size1, ← size1])
    have hN : New w W := by subst hW; exact (((Kept.refl _ _).alloc _).alloc _).alloc _
    clear hW s0
    have q0 := b0.cell 2
    have q1 := b0.cell 3
    have q2 := (b1.cell mb).trans gb
    have q3 := (b1.cell mc).trans gc
    have z0 := b2.free
    have z1 := b2.cell 0
    have z2 := b2.cell 1
    have z3 := b2.cell 2
    simp only [List.getElem?_toArray, List.getElem?_cons_zero, List.getElem?_cons_succ] at q0 q1 z1 z2 z3
    have B0 := Lib.hid b0
    have B1 := Lib.hid b1
    have B2 := Lib.hid b2
    have HN := Lib.hid hN
    clear b0 b1 b2 hN
    clear gb gc
    have i0 : (0 : Int) ≤ (mb : Int) := by omega
    have i1 : (mb : Int) < 8 := by omega
    have i2 : (0 : Int) ≤ (mc : Int) := by omega
    have i3 : (mc : Int) < 8 := by omega
    have n0 : w.heap.size ≠ w.heap.size + 1 + 1 := by omega
    have n1 : w.heap.size + 1 ≠ w.heap.size + 1 + 1 := by omega
    have n2 := n0.symm
    have hx2 : w.heap.size ≤ w.heap.size + 1 + 1 := by omega
    have n3 := n1.symm
    generalize w.heap.size + 1 + 1 = x2 at *
    generalize w.heap.size + 1 = x1 at *
    go_region_held3 (fun W' => W'.cell? ⟨w.heap.size, 2, none⟩ = some (.int .i64 (mb : Int)) ∧ W'.cell? ⟨w.heap.size, 3, none⟩ = some (.int .i64 (mc : Int)) ∧ W'.cell? ⟨x1, mb, none⟩ = some (.int .i64 vb) ∧ W'.cell? ⟨x1, mc, none⟩ = some (.int .i64 vc)) (go_keep) (fail)
    have b3 : Blk (((W.setCell ⟨x2, 0, none⟩ (.int .i64 2)).setCell ⟨x2, 1, none⟩ (.int .i64 vb)).setCell ⟨x2, 2, none⟩ (.int .i64 vc)).drew x2 28 #[.int .i64 2, .int .i64 vb, .int .i64 vc] := ((B2.out.set (i := 0) (.int .i64 2)).set (i := 1) (.int .i64 vb)).set (i := 2) (.int .i64 vc)
    have hN3 : New w (((W.setCell ⟨x2, 0, none⟩ (.int .i64 2)).setCell ⟨x2, 1, none⟩ (.int .i64 vb)).setCell ⟨x2, 2, none⟩ (.int .i64 vc)).drew := ((((HN.out.setCell (.inl hx2) _).setCell (.inl hx2) _)).setCell (.inl hx2) _).drew
    clear q0 q1 q2 q3 z0 z1 z2 z3 B0 B1 B2 HN
    generalize (((W.setCell ⟨x2, 0, none⟩ (.int .i64 2)).setCell ⟨x2, 1, none⟩ (.int .i64 vb)).setCell ⟨x2, 2, none⟩ (.int .i64 vc)).drew = W3 at *
    have z1 := b3.cell 0
    have z2 := b3.cell 1
    have z3 := b3.cell 2
    simp only [List.getElem?_toArray, List.getElem?_cons_zero, List.getElem?_cons_succ] at z1 z2 z3
    have B3 := Lib.hid b3
    have HN3 := Lib.hid hN3
    clear b3 hN3
    go_wp2
    refine bodyPost_ret (v := .tuple #[wantV ⟨2, vb, vc⟩, .bool true, .bool true]) (by simp [results, Try.results19, go_sem, wantV, z1, z2, z3]) rfl ⟨rfl, HN3.out⟩
  · unfold regsC
    unfold agg
    clear gb gc
    go_enter Try.func19, Try.ntmps19
    go_wp2
    all_goals
      refine bodyPost_ret (v := .tuple #[wantV (CpuP.wants (Ins.mk op ma mb mc imm) c).1, .bool (CpuP.wants (Ins.mk op ma mb mc imm) c).2.1, .bool (CpuP.wants (Ins.mk op ma mb mc imm) c).2.2]) (by simp_all [results, Try.results19, go_sem, wantV, wants]) rfl ⟨rfl, ?_⟩
      exact (((Kept.refl _ _).alloc _).alloc _).alloc _
end Go.Proofs.Ytilioiebecpknaa.Cpu
