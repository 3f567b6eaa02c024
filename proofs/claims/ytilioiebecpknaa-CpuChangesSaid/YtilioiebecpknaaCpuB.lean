/- The walks of CpuNames and CpuChanges (layer 13). -/
import Derived.Test.YtilioiebecpknaaCpuA
import Derived.Deep.QuietTactic
import Derived.BigQuiet
namespace Go.Proofs.Ytilioiebecpknaa.Cpu
open Go.RowKit Go.Fb Go.BytesP Go.CodeP Go.CpuP _root_.Go.Proofs.Ytilioiebecpknaa.Code
set_option linter.unusedVariables false
/-- A step, told by what it changes. -/
def StepR (w : World) (c : Core) (l : List Ins) (e : Ending) (w' : World) : Prop :=
  ∃ d t, e = .returned (.tuple #[coreV d, wantV t]) ∧ Changed c d t l ∧ New w w'
theorem step_told (c : Core) (A : Option Addr) (n k : Nat) (l : List Ins) (tick self : Int) (w : World) (hl : SliceOf repIns w w.heap.size A n k l) :
    Calls Try.prog 7 #[coreV c, .slice A n k, .int .i64 tick, .int .i64 self] w (StepR w c l) := by
  refine (step_any c A n k l tick self w hl).mono ?_
  rintro e w' ⟨⟨v, _, rfl⟩, hn⟩
  exact ⟨_, _, rfl, step_changed v c l tick self, hn⟩
theorem coreC_at (c : Core) (m : Nat) (h : m < 8) : (coreC c)[1 + m]? = some (.int .i64 (c.get m)) := coreC_get c m h
set_option maxRecDepth 100000 in
set_option maxHeartbeats 4000000 in
theorem changes_walk (c : Core) (A : Option Addr) (n k : Nat) (l : List Ins) (tick self : Int) (w : World) (hl : SliceOf repIns w w.heap.size A n k l) :
    Calls Try.prog 4 #[coreV c, .slice A n k, .int .i64 tick, .int .i64 self] w fun e w' => e = .returned (.bool true) ∧ New w w' := by
  have hn := hl.len
  have hbd := hl.bound
  have hall : ∀ W, New (w.alloc (.cells (coreC c) 25)) W → Blk W w.heap.size 25 (coreC c) := fun W h => (Blk.made _ _ _).kept h id
  have haw := awake_any (w.alloc (.cells (coreC c) 25))
  have hst := fun W (h : New w W) => step_told c A n k l tick self W (news hl h)
  have hz := size1 w (.cells (coreC c) 25)
  obtain ⟨C, hC⟩ : ∃ C, C = c := ⟨_, rfl⟩
  have HC0 := Lib.hid hC
  obtain ⟨pc, r0, r1, r2, r3, r4, r5, r6, r7⟩ := c
  rw [← hC] at hst hall
  subst hC
  unfold coreV coreC at *
  simp only at *
  have HALL := Lib.hid hall
  have HAW := Lib.hid haw
  have HST := Lib.hid hst
  have HZ := Lib.hid hz
  have HN := Lib.hid hn
  have HL := Lib.hid hl
  clear hall haw hst hz hn hl
  go_enter Try.func4, Try.ntmps4
  go_wp2_with fail
  refine HAW.out.mono ?_
  rintro e w1 ⟨rfl, hw1⟩
  have hn1 : New w w1 := ((Kept.refl _ _).alloc _).trans hw1
  have hz1 : w.heap.size + 1 ≤ w1.heap.size := Nat.le_trans (Nat.le_of_eq HZ.out) hw1.size
  have hb1 := HALL.out w1 hw1
  obtain ⟨d0, d1, d2, d3, d4, d5, d6, d7, d8⟩ := Blk.core (c := ⟨pc, r0, r1, r2, r3, r4, r5, r6, r7⟩) hb1
  have HN1 := Lib.hid hn1
  have HW1 := Lib.hid hw1
  have HB1 := Lib.hid hb1
  clear hn1 hw1 hb1
  go_wp2_with fail
  refine (HST.out w1 HN1.out).mono ?_
  rintro e w2 ⟨d, t, rfl, hch, hw2⟩
  obtain ⟨dpc, s0, s1, s2, s3, s4, s5, s6, s7⟩ := d
  obtain ⟨kd, to, vl⟩ := t
  have hb2 := HB1.out.kept hw2 id
  have hn2 := HN1.out.trans hw2
  have hz2 := hw2.size
  unfold coreV coreC wantV
  simp only
  clear d0 d1 d2 d3 d4 d5 d6 d7 d8
  have HCH := Lib.hid hch
  have HB2 := Lib.hid hb2
  have HN2 := Lib.hid hn2
  have HW2 := Lib.hid hw2
  clear hch hb2 hn2 hw2
  go_upto_region 4 with (fail)
  generalize hW : (w2.alloc (.cells #[.int .i64 dpc, .int .i64 s0, .int .i64 s1, .int .i64 s2, .int .i64 s3, .int .i64 s4, .int .i64 s5, .int .i64 s6, .int .i64 s7] 25)).alloc (.cells #[.int .i64 kd, .int .i64 to, .int .i64 vl] 28) = W3
  have h23 : New w2 W3 := by rw [← hW]; exact ((Kept.refl _ _).alloc _).alloc _
  have hb3 : Blk W3 w2.heap.size 25 (coreC ⟨dpc, s0, s1, s2, s3, s4, s5, s6, s7⟩) := by rw [← hW]; exact (Blk.made _ _ _).alloc _
  have hb4 : Blk W3 (w2.heap.size + 1) 28 (wantC ⟨kd, to, vl⟩) := by rw [← hW]; exact Blk.made_at _ _ _ _ (size1 _ _)
  clear hW
  have hn3 := HN2.out.trans h23
  have hbc := HB2.out.kept h23 id
  have hcc : ∀ i : Nat, i < 8 → W3.cell? ⟨w.heap.size, 1 + i, none⟩ = some (.int .i64 (Core.get ⟨pc, r0, r1, r2, r3, r4, r5, r6, r7⟩ i)) := fun i hi => (hbc.cell (1 + i)).trans (coreC_get ⟨pc, r0, r1, r2, r3, r4, r5, r6, r7⟩ i hi)
  have hdd : ∀ i : Nat, i < 8 → W3.cell? ⟨w2.heap.size, 1 + i, none⟩ = some (.int .i64 (Core.get ⟨dpc, s0, s1, s2, s3, s4, s5, s6, s7⟩ i)) := fun i hi => (hb3.cell (1 + i)).trans (coreC_get ⟨dpc, s0, s1, s2, s3, s4, s5, s6, s7⟩ i hi)
  have x0 : W3.cell? ⟨w.heap.size, 0, none⟩ = some (.int .i64 pc) := hbc.cell 0
  have x1 : W3.cell? ⟨w2.heap.size, 0, none⟩ = some (.int .i64 dpc) := hb3.cell 0
  have x2 : W3.cell? ⟨w2.heap.size + 1, 0, none⟩ = some (.int .i64 kd) := hb4.cell 0
  have hl3 := news HL.out hn3
  have U := Lib.hid (show ∀ i, nd ⟨pc, r0, r1, r2, r3, r4, r5, r6, r7⟩ ⟨dpc, s0, s1, s2, s3, s4, s5, s6, s7⟩ (i + 1) = nd ⟨pc, r0, r1, r2, r3, r4, r5, r6, r7⟩ ⟨dpc, s0, s1, s2, s3, s4, s5, s6, s7⟩ i + if Core.get ⟨pc, r0, r1, r2, r3, r4, r5, r6, r7⟩ i = Core.get ⟨dpc, s0, s1, s2, s3, s4, s5, s6, s7⟩ i then 0 else 1 from fun i => rfl)
  have V := Lib.hid (show ∀ i, nd ⟨pc, r0, r1, r2, r3, r4, r5, r6, r7⟩ ⟨dpc, s0, s1, s2, s3, s4, s5, s6, s7⟩ i ≤ i from fun i => nd_le i)
  have Z := Lib.hid (show nd ⟨pc, r0, r1, r2, r3, r4, r5, r6, r7⟩ ⟨dpc, s0, s1, s2, s3, s4, s5, s6, s7⟩ 0 = 0 from rfl)
  have hsome := HCH.out.some_
  have hnone := HCH.out.none_
  simp only at hsome hnone
  rw [← HN.out] at hnone
  generalize nd ⟨pc, r0, r1, r2, r3, r4, r5, r6, r7⟩ ⟨dpc, s0, s1, s2, s3, s4, s5, s6, s7⟩ = ND at *
  generalize Core.get ⟨pc, r0, r1, r2, r3, r4, r5, r6, r7⟩ = gc at *
  generalize Core.get ⟨dpc, s0, s1, s2, s3, s4, s5, s6, s7⟩ = gd at *
  have HN3 := Lib.hid hn3
  have HCC := Lib.hid hcc
  have HDD := Lib.hid hdd
  have HL3 := Lib.hid hl3
  have HSOME := Lib.hid hsome
  have HNONE := Lib.hid hnone
  clear hn3 hcc hdd hl3 hsome hnone
  clear h23 hb3 hb4 hbc
  go_wp2_with fail
  go_loopg [11, 12] 8 (fun g s11 s12 wr => ∃ i q : Nat, i ≤ 8 ∧ 8 - i ≤ g ∧ s12 = .int .i64 i ∧ s11 = .int .i64 (ND i : Nat) ∧ wr = W3.drewN q)
  case atStart => exact ⟨0, 0, by omega, by omega, rfl, by rw [Z.out]; rfl, rfl⟩
  case round =>
    obtain ⟨i, q, hi, hg, rfl, rfl, rfl⟩ := hrel
    have hv := V.out i
    by_cases hlt : i < 8
    · have e1 := HCC.out i hlt
      have e2 := HDD.out i hlt
      have hu := U.out i
      by_cases he : gc i = gd i
      · have HU := Lib.hid (show ND (i + 1) = ND i by rw [hu, if_pos he]; rfl)
        clear hu
        rw [he] at e1
        generalize gd i = v at *
        clear he
        go_wp2_with fail
        go_quiet (fail)
        go_wp2_with fail
        go_roundg (8 - (i + 1))
        case measure => omega
        case rel => exact ⟨i + 1, _, by omega, by omega, by go_num, by rw [HU.out], rfl⟩
      · have HU := Lib.hid (show ND (i + 1) = ND i + 1 by rw [hu, if_neg he])
        clear hu
        have hne : (gc i != gd i) = true := by simpa using he
        generalize gd i = v at *
        generalize gc i = u at *
        clear he
        go_wp2_with fail
        go_quiet (fail)
        go_wp2_with fail
        go_roundg (8 - (i + 1))
        case measure => omega
        case rel => exact ⟨i + 1, _, by omega, by omega, by go_num, by rw [HU.out]; go_num, rfl⟩
    · obtain rfl : i = 8 := by omega
      have hN : New w (W3.drewN q) := HN3.out.drewN q
      have HNF := Lib.hid hN
      clear hN
      by_cases hk : kd = 0
      · obtain ⟨⟨g1, g2⟩, g3, g4⟩ := HNONE.out hk
        subst hk
        obtain ⟨m, rfl⟩ : ∃ m : Nat, pc = m := ⟨pc.toNat, by omega⟩
        obtain ⟨b, o, rfl, hb, hins⟩ := ins_at HL3.out (by omega)
        have hml : m < l.length := by have := HN.out; omega
        obtain ⟨y0, -, -, -, y4⟩ := hins m hml
        rw [Int.toNat_natCast, List.getD_eq_getElem?_getD, List.getElem?_eq_getElem hml] at g4
        simp only [Option.getD_some] at g4
        generalize l[m] = x at *
        obtain ⟨xop, xa, xb, xc, ximm⟩ := x
        simp only at g4 y0 y4
        rw [show wrap64 ((m : Int) + 1) = (m : Int) + 1 from IntWalk.wrap64_in _ (by omega)] at g4
        generalize ND 8 = N at *
        have g5 : m < n := by omega
        have WM := Lib.hid (show IntKind.i64.wrap ((m : Int) + 1) = (m : Int) + 1 from IntWalk.i64_in _ (by omega))
        have dN : decide ((N : Int) ≤ 1) = true := decide_eq_true (by omega)
        have dN2 : decide (N ≤ 1) = true := decide_eq_true g3
        clear hins hml hi
        by_cases he : dpc = (m : Int) + 1
        · subst he
          clear g4
          by_cases h22 : xop = 22
          · subst h22
            go_wp2_with fail
            have wm := WM.out
            go_quiet (fail)
            clear wm
            go_wp2_with fail
            go_ret
            exact ⟨rfl, (HN3.out.drewN _).drewN _⟩
          · by_cases h23 : xop = 23
            · subst h23
              go_wp2_with fail
              have wm := WM.out
              go_quiet (fail)
              clear wm
              go_wp2_with fail
              go_ret
              exact ⟨rfl, (HN3.out.drewN _).drewN _⟩
            · have k1 : (xop == 22) = false := by simpa using h22
              have k2 : (xop == 23) = false := by simpa using h23
              clear h22 h23
              go_wp2_with fail
              have wm := WM.out
              go_quiet (fail)
              clear wm
              go_wp2_with fail
              go_ret
              exact ⟨rfl, (HN3.out.drewN _).drewN _⟩
        · have k0 : (dpc == (m : Int) + 1) = false := by simpa using he
          rcases g4 with g4 | ⟨g4, g6, g7⟩
          · exact absurd g4 he
          have dN0 : ((N : Int) == 0) = true := by simp; omega
          have dN1 : (N == 0) = true := by simpa using g6
          subst g7
          clear he g3 g6
          rcases g4 with rfl | rfl
          all_goals
            go_wp2_with fail
            have wm := WM.out
            go_quiet (fail)
            clear wm
            go_wp2_with fail
            go_ret
            exact ⟨rfl, (HN3.out.drewN _).drewN _⟩
      · obtain ⟨h1, h2⟩ := HSOME.out hk
        rw [h1]
        have hk2 : (kd != 0) = true := by simpa using hk
        rcases h2 with rfl | rfl
        all_goals
          clear hk h1
          go_wp2_with fail
          all_goals (go_ret; exact ⟨by first | rfl | simp [Array.getD], HNF.out⟩)
/-- How a core lies. -/
def repCore : Rep Core where
  size := 9
  cells _ _ x cs := cs = (coreC x).toList
  length h := by rw [h]; rfl
  stays _ h := h
  more _ h := h
theorem opens_core : Opens Try.prog repCore 25 := by
  have h : Opens Try.prog ((Rep.int .i64).pair ((Rep.row .i64 8).pair Rep.unit)) 25 := opens_struct Try.underlying25 (by kernel_rfl)
    (opensAt_cons rfl (by kernel_rfl) (opens_int Try.underlying3) (opensAt_cons rfl (by kernel_rfl) (opens_row Try.underlying23 Try.underlying2 (by kernel_rfl) (by kernel_rfl)) opensAt_nil))
  intro H enc w fuel cs y hy
  obtain ⟨x, hx⟩ := h H enc w fuel cs y hy
  obtain ⟨_, _, rfl, ⟨rfl, h1⟩, _, _, rfl, ⟨rfl, h2, h3⟩, rfl⟩ := hx
  obtain ⟨p, l, u⟩ := x
  simp only at h2 ⊢
  match l, h2 with
  | [a0, a1, a2, a3, a4, a5, a6, a7], _ => exact ⟨⟨p, a0, a1, a2, a3, a4, a5, a6, a7⟩, rfl⟩
theorem changes_law (cs : Array Value) (c : Core) (B : Nat) (A : Option Addr) (n k : Nat) (l : List Ins) (tick self : Int) (w : World) (h : repCore.cells w B c cs.toList) (hl : SliceOf repIns w w.heap.size A n k l) :
    Calls Try.prog 4 #[.agg cs, .slice A n k, .int .i64 tick, .int .i64 self] w fun e w' => e = .returned (.bool true) ∧ New w w' := by
  have e : cs = coreC c := by
    cases cs with
    | mk l => exact congrArg List.toArray (show l = (coreC c).toList from h)
  rw [e]
  exact changes_walk c A n k l tick self w hl
end Go.Proofs.Ytilioiebecpknaa.Cpu
