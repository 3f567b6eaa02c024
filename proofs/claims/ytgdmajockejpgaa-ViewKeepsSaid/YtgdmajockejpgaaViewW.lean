/- The walk of the law's awake (layer 18). -/
import Derived.Test.YtgdmajockejpgaaViewV
namespace Go.Proofs.Ytgdmajockejpgaa.View
open Go.RowKit Go.Fb
set_option linter.unusedVariables false
def aConf : Config := ⟨[0, 1, 2, 3], [0, 1, 2, 3]⟩
def aPart (i j : Nat) : Part := ⟨0, [], if j < i then 10 + j else 0, 0, [], []⟩
def aProc (i j : Nat) : Process := ⟨0, if j < i then 20 + j else 0, 0, 0, 0, 0, 0, 0, 0, 0, 0, 0, false, 0, []⟩
def aState (i : Nat) : State := ⟨7, (List.range 4).map (aPart i), (List.range 4).map (aProc i)⟩
def PA (i : Nat) : Array Value := ((List.range 4).flatMap fun j => partC (aPart i j) (.slice none 0 0) (.slice none 0 0) (.slice none 0 0)).toArray
def QA (i : Nat) : Array Value := ((List.range 4).flatMap fun j => procC (aProc i j) (.slice none 0 0)).toArray
theorem four {P : Nat → Prop} (h0 : P 0) (h1 : P 1) (h2 : P 2) (h3 : P 3) : ∀ i, i < 4 → P i
  | 0, _ => h0
  | 1, _ => h1
  | 2, _ => h2
  | 3, _ => h3
theorem PA_set : ∀ i, i < 4 → (PA i).setIfInBounds (i * 6 + 2) (.int .i64 (10 + (i : Int))) = PA (i + 1) := four rfl rfl rfl rfl
theorem QA_set : ∀ i, i < 4 → (QA i).setIfInBounds (i * 15 + 1) (.int .i64 (20 + (i : Int))) = QA (i + 1) := four rfl rfl rfl rfl
theorem PA_at : ∀ i, i < 4 → (PA i)[i * 6 + 2]? = some (.int .i64 0) := four rfl rfl rfl rfl
theorem QA_at : ∀ i, i < 4 → (QA i)[i * 15 + 1]? = some (.int .i64 0) := four rfl rfl rfl rfl
theorem aParts {w : World} {g : Nat} (h : Blk w g 43 (PA 4)) : SliceOf repPart w w.heap.size (some ⟨g, 0, none⟩) 4 4 (aState 4).parts := by
  refine ⟨rfl, Nat.le_refl _, by decide, .inr ⟨g, 0, rfl, h.lt, ?_⟩⟩
  intro i hi
  have hi4 : i < 4 := hi
  obtain rfl | rfl | rfl | rfl : i = 0 ∨ i = 1 ∨ i = 2 ∨ i = 3 := by omega
  all_goals
    refine ⟨partC (aPart 4 _) (.slice none 0 0) (.slice none 0 0) (.slice none 0 0), fun j hj => ?_, none, 0, 0, none, 0, 0, none, 0, 0, rfl, SliceOf.nil _ _ _, SliceOf.nil _ _ _, SliceOf.nil _ _ _⟩
    rw [h.cell]
    match j, hj with
    | 0, _ => rfl
    | 1, _ => rfl
    | 2, _ => rfl
    | 3, _ => rfl
    | 4, _ => rfl
    | 5, _ => rfl
theorem aProcs {w : World} {g : Nat} (h : Blk w g 49 (QA 4)) : SliceOf repProc w w.heap.size (some ⟨g, 0, none⟩) 4 4 (aState 4).procs := by
  refine ⟨rfl, Nat.le_refl _, by decide, .inr ⟨g, 0, rfl, h.lt, ?_⟩⟩
  intro i hi
  have hi4 : i < 4 := hi
  obtain rfl | rfl | rfl | rfl : i = 0 ∨ i = 1 ∨ i = 2 ∨ i = 3 := by omega
  all_goals
    refine ⟨procC (aProc 4 _) (.slice none 0 0), fun j hj => ?_, none, 0, 0, rfl, SliceOf.nil _ _ _⟩
    rw [h.cell]
    match j, hj with
    | 0, _ => rfl
    | 1, _ => rfl
    | 2, _ => rfl
    | 3, _ => rfl
    | 4, _ => rfl
    | 5, _ => rfl
    | 6, _ => rfl
    | 7, _ => rfl
    | 8, _ => rfl
    | 9, _ => rfl
    | 10, _ => rfl
    | 11, _ => rfl
    | 12, _ => rfl
    | 13, _ => rfl
    | 14, _ => rfl
theorem aFew : Few (aState 4) := by
  refine ⟨by decide, ?_, by decide, ?_⟩
  · intro x hx
    obtain ⟨j, -, rfl⟩ := List.mem_map.1 hx
    exact ⟨Nat.zero_le _, Nat.zero_le _, Nat.zero_le _, fun q hq => by cases hq⟩
  · intro x hx
    obtain ⟨j, -, rfl⟩ := List.mem_map.1 hx
    exact ⟨Nat.zero_le _, fun q hq => by cases hq⟩
theorem aLabels {w : World} {g : Nat} (h : Blk w g 31 #[.int .u64 0, .int .u64 1, .int .u64 2, .int .u64 3]) : SliceOf (Rep.int .u64) w w.heap.size (some ⟨g, 0, none⟩) 4 4 aConf.labels := by
  refine ⟨rfl, Nat.le_refl _, by decide, .inr ⟨g, 0, rfl, h.lt, ?_⟩⟩
  intro i hi
  have hi4 : i < 4 := hi
  obtain rfl | rfl | rfl | rfl : i = 0 ∨ i = 1 ∨ i = 2 ∨ i = 3 := by omega
  all_goals
    refine ⟨[.int .u64 _], fun j hj => ?_, rfl, rfl⟩
    rw [h.cell]
    match j, hj with
    | 0, _ => rfl
theorem aPrs {w : World} {g : Nat} (h : Blk w g 59 #[.int .i64 0, .slice none 0 0, .int .i64 1, .slice none 0 0, .int .i64 2, .slice none 0 0, .int .i64 3, .slice none 0 0]) : SliceOf repPr w w.heap.size (some ⟨g, 0, none⟩) 4 4 aConf.procs := by
  refine ⟨rfl, Nat.le_refl _, by decide, .inr ⟨g, 0, rfl, h.lt, ?_⟩⟩
  intro i hi
  have hi4 : i < 4 := hi
  obtain rfl | rfl | rfl | rfl : i = 0 ∨ i = 1 ∨ i = 2 ∨ i = 3 := by omega
  all_goals
    refine ⟨[.int .i64 _, .slice none 0 0], fun j hj => ?_, none, 0, 0, rfl, rfl⟩
    rw [h.cell]
    match j, hj with
    | 0, _ => rfl
    | 1, _ => rfl
theorem aSeen1 : seesB aConf 1 3 = true := by decide
theorem aSeen2 : seesB aConf 1 2 = false := by decide
def aSeen : State := ⟨7, [aPart 4 0, zPart, aPart 4 2, zPart], [aProc 4 0, zProc, aProc 4 2, zProc]⟩
theorem aOf : ofS aConf (aState 4) 2 = aSeen := rfl
theorem aTick : aSeen.tick = 7 := rfl
theorem aNe : eqb (aState 4) aSeen = false := eqb_false fun h => by
  have := congrArg (fun s : State => (s.parts.getD 1 zPart).lost) h
  exact absurd this (by decide)
theorem made4 : ∀ w, (Instr.makeSlice 27 (.int .i64 4) (.int .i64 4)).run Try.prog w = .ok (.slice (some ⟨w.heap.size, 0, none⟩) 4 4) (w.alloc (.cells (PA 0) 43)) := make_parts 4 (by decide)
theorem made4p : ∀ w, (Instr.makeSlice 28 (.int .i64 4) (.int .i64 4)).run Try.prog w = .ok (.slice (some ⟨w.heap.size, 0, none⟩) 4 4) (w.alloc (.cells (QA 0) 49)) := make_procs 4 (by decide)
set_option maxHeartbeats 4000000 in
set_option maxRecDepth 100000 in
theorem awake_any (w : World) : Calls Try.prog 6 #[] w fun e w' => e = .returned (.bool true) ∧ New w w' := by
  have mk1 := made4
  have mk2 := made4p
  have b0 : Blk (((w.alloc (.cells #[.int .u64 0, .int .u64 1, .int .u64 2, .int .u64 3] 31)).alloc (.cells #[.int .i64 0, .slice none 0 0, .int .i64 1, .slice none 0 0, .int .i64 2, .slice none 0 0, .int .i64 3, .slice none 0 0] 59)).alloc (.cells #[.slice (some ⟨w.heap.size, 0, none⟩) 4 4, .slice none 0 0, .int .i64 0, .int .i64 0, .int .i64 0, .int .i64 0, .slice (some ⟨w.heap.size + 1, 0, none⟩) 4 4] 26)) w.heap.size 31 #[.int .u64 0, .int .u64 1, .int .u64 2, .int .u64 3] := ((Blk.made _ _ _).alloc _).alloc _
  have b1 : Blk (((w.alloc (.cells #[.int .u64 0, .int .u64 1, .int .u64 2, .int .u64 3] 31)).alloc (.cells #[.int .i64 0, .slice none 0 0, .int .i64 1, .slice none 0 0, .int .i64 2, .slice none 0 0, .int .i64 3, .slice none 0 0] 59)).alloc (.cells #[.slice (some ⟨w.heap.size, 0, none⟩) 4 4, .slice none 0 0, .int .i64 0, .int .i64 0, .int .i64 0, .int .i64 0, .slice (some ⟨w.heap.size + 1, 0, none⟩) 4 4] 26)) (w.heap.size + 1) 59 #[.int .i64 0, .slice none 0 0, .int .i64 1, .slice none 0 0, .int .i64 2, .slice none 0 0, .int .i64 3, .slice none 0 0] := (Blk.made_at _ _ _ _ (by simp)).alloc _
  have b2 : Blk (((w.alloc (.cells #[.int .u64 0, .int .u64 1, .int .u64 2, .int .u64 3] 31)).alloc (.cells #[.int .i64 0, .slice none 0 0, .int .i64 1, .slice none 0 0, .int .i64 2, .slice none 0 0, .int .i64 3, .slice none 0 0] 59)).alloc (.cells #[.slice (some ⟨w.heap.size, 0, none⟩) 4 4, .slice none 0 0, .int .i64 0, .int .i64 0, .int .i64 0, .int .i64 0, .slice (some ⟨w.heap.size + 1, 0, none⟩) 4 4] 26)) (w.heap.size + 2) 26 #[.slice (some ⟨w.heap.size, 0, none⟩) 4 4, .slice none 0 0, .int .i64 0, .int .i64 0, .int .i64 0, .int .i64 0, .slice (some ⟨w.heap.size + 1, 0, none⟩) 4 4] := Blk.made_at _ _ _ _ (by simp)
  have hn : New w (((w.alloc (.cells #[.int .u64 0, .int .u64 1, .int .u64 2, .int .u64 3] 31)).alloc (.cells #[.int .i64 0, .slice none 0 0, .int .i64 1, .slice none 0 0, .int .i64 2, .slice none 0 0, .int .i64 3, .slice none 0 0] 59)).alloc (.cells #[.slice (some ⟨w.heap.size, 0, none⟩) 4 4, .slice none 0 0, .int .i64 0, .int .i64 0, .int .i64 0, .int .i64 0, .slice (some ⟨w.heap.size + 1, 0, none⟩) 4 4] 26)) := (((Kept.refl _ _).alloc _).alloc _).alloc _
  have B0 := Lib.hid b0
  have B1 := Lib.hid b1
  have B2 := Lib.hid b2
  have HN := Lib.hid hn
  clear b0 b1 b2 hn
  go_enter Try.func6, Try.ntmps6
  go_upto_region 2 with (fail)
  generalize ((w.alloc (.cells #[.int .u64 0, .int .u64 1, .int .u64 2, .int .u64 3] 31)).alloc (.cells #[.int .i64 0, .slice none 0 0, .int .i64 1, .slice none 0 0, .int .i64 2, .slice none 0 0, .int .i64 3, .slice none 0 0] 59)).alloc (.cells #[.slice (some ⟨w.heap.size, 0, none⟩) 4 4, .slice none 0 0, .int .i64 0, .int .i64 0, .int .i64 0, .int .i64 0, .slice (some ⟨w.heap.size + 1, 0, none⟩) 4 4] 26) = w1 at *
  have HBW : Hid (w.heap.size + 2 < w1.heap.size) := Lib.hid B2.out.lt
  generalize hbw : w.heap.size = b at *
  have HBE : Hid (w.heap.size = b) := Lib.hid hbw
  clear hbw
  go_cut [2] (fun z wx => ∃ gz gp gq, z = .pointer (some ⟨gz, 0, none⟩) ∧ Blk wx gz 30 #[.int .i64 7, .slice (some ⟨gp, 0, none⟩) 4 4, .slice (some ⟨gq, 0, none⟩) 4 4] ∧ Blk wx gp 43 (PA 0) ∧ Blk wx gq 49 (QA 0) ∧ New w1 wx ∧ (w1.heap.size ≤ gz ∧ w1.heap.size ≤ gp ∧ w1.heap.size ≤ gq) ∧ (gz ≠ gp ∧ gz ≠ gq ∧ gp ≠ gq))
  case first =>
    go_region
    all_goals
      go_wp2_with fail
      go_meet
      case rel => first
        | exact ⟨(w1.heap.size + 1 + 1), w1.heap.size, (w1.heap.size + 1), rfl, (Blk.made_at _ _ _ _ (by simp)).kept (Kept.refl (fun _ => False) _).drew id, (((Blk.made_at _ _ _ _ (by simp)).alloc _).alloc _).kept (Kept.refl (fun _ => False) _).drew id, ((Blk.made_at _ _ _ _ (by simp)).alloc _).kept (Kept.refl (fun _ => False) _).drew id, (((Kept.refl _ _).alloc _).alloc _).alloc _ |>.drew, ⟨by omega, by omega, by omega⟩, ⟨by omega, by omega, by omega⟩⟩
        | exact ⟨(w1.heap.size + 1), w1.heap.size, (w1.heap.size + 1 + 1), rfl, ((Blk.made_at _ _ _ _ (by simp)).alloc _).kept (Kept.refl (fun _ => False) _).drew id, (((Blk.made_at _ _ _ _ (by simp)).alloc _).alloc _).kept (Kept.refl (fun _ => False) _).drew id, (Blk.made_at _ _ _ _ (by simp)).kept (Kept.refl (fun _ => False) _).drew id, (((Kept.refl _ _).alloc _).alloc _).alloc _ |>.drew, ⟨by omega, by omega, by omega⟩, ⟨by omega, by omega, by omega⟩⟩
        | exact ⟨(w1.heap.size + 1 + 1), (w1.heap.size + 1), w1.heap.size, rfl, (Blk.made_at _ _ _ _ (by simp)).kept (Kept.refl (fun _ => False) _).drew id, ((Blk.made_at _ _ _ _ (by simp)).alloc _).kept (Kept.refl (fun _ => False) _).drew id, (((Blk.made_at _ _ _ _ (by simp)).alloc _).alloc _).kept (Kept.refl (fun _ => False) _).drew id, (((Kept.refl _ _).alloc _).alloc _).alloc _ |>.drew, ⟨by omega, by omega, by omega⟩, ⟨by omega, by omega, by omega⟩⟩
        | exact ⟨(w1.heap.size + 1), (w1.heap.size + 1 + 1), w1.heap.size, rfl, ((Blk.made_at _ _ _ _ (by simp)).alloc _).kept (Kept.refl (fun _ => False) _).drew id, (Blk.made_at _ _ _ _ (by simp)).kept (Kept.refl (fun _ => False) _).drew id, (((Blk.made_at _ _ _ _ (by simp)).alloc _).alloc _).kept (Kept.refl (fun _ => False) _).drew id, (((Kept.refl _ _).alloc _).alloc _).alloc _ |>.drew, ⟨by omega, by omega, by omega⟩, ⟨by omega, by omega, by omega⟩⟩
        | exact ⟨w1.heap.size, (w1.heap.size + 1), (w1.heap.size + 1 + 1), rfl, (((Blk.made_at _ _ _ _ (by simp)).alloc _).alloc _).kept (Kept.refl (fun _ => False) _).drew id, ((Blk.made_at _ _ _ _ (by simp)).alloc _).kept (Kept.refl (fun _ => False) _).drew id, (Blk.made_at _ _ _ _ (by simp)).kept (Kept.refl (fun _ => False) _).drew id, (((Kept.refl _ _).alloc _).alloc _).alloc _ |>.drew, ⟨by omega, by omega, by omega⟩, ⟨by omega, by omega, by omega⟩⟩
        | exact ⟨w1.heap.size, (w1.heap.size + 1 + 1), (w1.heap.size + 1), rfl, (((Blk.made_at _ _ _ _ (by simp)).alloc _).alloc _).kept (Kept.refl (fun _ => False) _).drew id, (Blk.made_at _ _ _ _ (by simp)).kept (Kept.refl (fun _ => False) _).drew id, ((Blk.made_at _ _ _ _ (by simp)).alloc _).kept (Kept.refl (fun _ => False) _).drew id, (((Kept.refl _ _).alloc _).alloc _).alloc _ |>.drew, ⟨by omega, by omega, by omega⟩, ⟨by omega, by omega, by omega⟩⟩
  case rest =>
    obtain ⟨gz, gp, gq, rfl, hbz, hbp, hbq, hn2, hge, hne⟩ := hcut
    have hb0 := B0.out.kept hn2 id
    have hb1 := B1.out.kept hn2 id
    have hb2 := B2.out.kept hn2 id
    have hnc := HN.out.trans hn2
    have HG : Hid (b + 2 < gz ∧ b + 2 < gp ∧ b + 2 < gq) := Lib.hid (by have := HBW.out; have := HBE.out; omega)
    obtain ⟨n1, n2, n3⟩ := hne
    have n4 : ¬ gp = gq := n3
    have n5 : ¬ gp = gz := fun e => n1 e.symm
    have n6 : ¬ gq = gz := fun e => n2 e.symm
    have HBZ := Lib.hid hbz
    have HBP := Lib.hid hbp
    have HBQ := Lib.hid hbq
    have HNC := Lib.hid hnc
    have B0C := Lib.hid hb0
    have B1C := Lib.hid hb1
    have B2C := Lib.hid hb2
    clear hbz hbp hbq hnc hb0 hb1 hb2
    clear hn2 hge mk1 mk2 B0 B1 B2
    go_wp2_with fail
    go_loopw [3] (fun t wr => ∃ i : Nat, i ≤ 4 ∧ t = .int .i64 i ∧ Kept (fun k => k = gp ∨ k = gq) wc wr ∧ Blk wr gp 43 (PA i) ∧ Blk wr gq 49 (QA i)) (fun t _ => (4 - intOf t).toNat)
    case atStart => exact ⟨0, Nat.zero_le _, rfl, Kept.refl _ _, HBP.out, HBQ.out⟩
    case round =>
      obtain ⟨i, hi, rfl, hkr, hp, hq⟩ := hrel
      have hbz2 := HBZ.out.kept hkr (fun e => by omega)
      have z0 := hbz2.cell 0
      have z1 := hbz2.cell 1
      have z2 := hbz2.cell 2
      simp only [List.getElem?_toArray, List.getElem?_cons_zero, List.getElem?_cons_succ] at z0 z1 z2
      by_cases hlt : i < 4
      · have p1 : wr.cell? ⟨gp, i * 6 + 2, none⟩ = some (.int .i64 0) := (hp.cell _).trans (PA_at i hlt)
        have p2 := hp.free (i * 6 + 2)
        have q1 : wr.cell? ⟨gq, i * 15 + 1, none⟩ = some (.int .i64 0) := (hq.cell _).trans (QA_at i hlt)
        have q2 := hq.free (i * 15 + 1)
        have e2 : (0 : Int) ≤ (i : Int) := by omega
        have e3 : (i : Int) < 4 := by omega
        have hP := (hp.set (i := i * 6 + 2) (.int .i64 (10 + (i : Int)))).other (p := ⟨gq, i * 15 + 1, none⟩) n4 (.int .i64 (20 + (i : Int)))
        have hQ := (hq.other (p := ⟨gp, i * 6 + 2, none⟩) (fun e => n4 e.symm) (.int .i64 (10 + (i : Int)))).set (i := i * 15 + 1) (.int .i64 (20 + (i : Int)))
        rw [PA_set i hlt] at hP
        rw [QA_set i hlt] at hQ
        have HKR := Lib.hid hkr
        have HP := Lib.hid hP
        have HQ := Lib.hid hQ
        clear hkr hP hQ
        clear hp hq hbz2
        go_wp2_with fail
        go_roundw
        case rel => exact ⟨i + 1, by omega, by go_num, (HKR.out.setCell (.inr (.inl rfl)) _).setCell (.inr (.inr rfl)) _, HP.out, HQ.out⟩
        case measure => simp [intOf]; omega
      · obtain rfl : i = 4 := by omega
        have hg := HG.out
        have hb0 := B0C.out.kept hkr (fun e => by omega)
        have hb1 := B1C.out.kept hkr (fun e => by omega)
        have hb2 := B2C.out.kept hkr (fun e => by omega)
        have hconf : repConf.cells wr wr.heap.size aConf [.slice (some ⟨b, 0, none⟩) 4 4, .slice none 0 0, .int .i64 0, .int .i64 0, .int .i64 0, .int .i64 0, .slice (some ⟨b + 1, 0, none⟩) 4 4] := ⟨_, 4, 4, _, _, _, _, _, _, 4, 4, rfl, ⟨rfl, rfl, rfl, rfl, rfl⟩, aLabels hb0, aPrs hb1⟩
        have hst : repState.cells wr wr.heap.size (aState 4) [.int .i64 7, .slice (some ⟨gp, 0, none⟩) 4 4, .slice (some ⟨gq, 0, none⟩) 4 4] := ⟨_, 4, 4, _, 4, 4, rfl, aParts hp, aProcs hq⟩
        have hof := of_any hconf hst (Nat.le_refl _) 2 aFew
        rw [aOf] at hof
        have HS1 := Lib.hid fun W (hW : New wr W) => sees_any (repConf.stays (fun p hp => hW.cell hp id) hconf) hW.size 1 3
        have HS2 := Lib.hid fun W (hW : New wr W) => sees_any (repConf.stays (fun p hp => hW.cell hp id) hconf) hW.size 1 2
        rw [aSeen1] at HS1
        rw [aSeen2] at HS2
        have HSTA := Lib.hid hst
        have y0 := hb2.cell 0
        have y1 := hb2.cell 1
        have y2 := hb2.cell 2
        have y3 := hb2.cell 3
        have y4 := hb2.cell 4
        have y5 := hb2.cell 5
        have y6 := hb2.cell 6
        simp only [List.getElem?_toArray, List.getElem?_cons_zero, List.getElem?_cons_succ] at y0 y1 y2 y3 y4 y5 y6
        have hnw := HNC.out.step hkr fun k hk e => by have := HBE.out; omega
        have HOF := Lib.hid hof
        have HB2 := Lib.hid hb2
        have HBZ2 := Lib.hid hbz2
        have HNW := Lib.hid hnw
        clear hof hb2 hbz2 hnw
        clear hkr hp hq hb0 hb1 hconf hst
        go_wp2_with fail
        refine HOF.out.mono ?_
        rintro e w5 ⟨cs, rfl, hown, hm5⟩
        obtain ⟨Ap, np, cp, Aq, nq, cq, F1, F2, rfl, ho1, ho2, -⟩ := hown
        obtain rfl : np = 4 := ho1.len
        obtain rfl : nq = 4 := ho2.len
        rw [aTick]
        have hst2 : repState.cells w5 w5.heap.size aSeen [.int .i64 7, .slice Ap 4 cp, .slice Aq 4 cq] := ⟨_, 4, _, _, 4, _, rfl, ho1.read part_reads, ho2.read proc_reads⟩
        have ka := ho1.bound
        have kb := ho2.bound
        have hal : New w5 (w5.alloc (.cells #[.int .i64 7, .slice Ap 4 cp, .slice Aq 4 cq] 30)) := (Kept.refl _ _).alloc _
        have hbt := Blk.made w5 30 #[.int .i64 7, .slice Ap 4 cp, .slice Aq 4 cq]
        obtain ⟨gA, oA, rfl, hgA, hcA⟩ := (ho1.read part_reads).get (by decide)
        obtain ⟨gB, oB, rfl, hgB, hcB⟩ := (ho2.read proc_reads).get (by decide)
        obtain ⟨e1, c1, r1⟩ := hcA 1 (by decide)
        obtain ⟨e2', c2, r2⟩ := hcA 2 (by decide)
        obtain ⟨e3', c3, r3⟩ := hcB 0 (by decide)
        obtain ⟨e4, c4, r4⟩ := hcB 3 (by decide)
        obtain ⟨_, _, _, _, _, _, _, _, _, rfl, -⟩ := r1
        obtain ⟨_, _, _, _, _, _, _, _, _, rfl, -⟩ := r2
        obtain ⟨_, _, _, rfl, -⟩ := r3
        obtain ⟨_, _, _, rfl, -⟩ := r4
        have a1 : w5.cell? ⟨gA, oA + 1 * 6 + 2, none⟩ = some (.int .i64 0) := c1 2 (by decide)
        have a2 : w5.cell? ⟨gA, oA + 2 * 6 + 2, none⟩ = some (.int .i64 12) := c2 2 (by decide)
        have a3 : w5.cell? ⟨gB, oB + 0 * 15 + 1, none⟩ = some (.int .i64 20) := c3 1 (by decide)
        have a4 : w5.cell? ⟨gB, oB + 3 * 15 + 1, none⟩ = some (.int .i64 0) := c4 1 (by decide)
        have a1 := (hal.cell (p := ⟨gA, oA + 1 * 6 + 2, none⟩) hgA id).trans a1
        have a2 := (hal.cell (p := ⟨gA, oA + 2 * 6 + 2, none⟩) hgA id).trans a2
        have a3 := (hal.cell (p := ⟨gB, oB + 0 * 15 + 1, none⟩) hgB id).trans a3
        have a4 := (hal.cell (p := ⟨gB, oB + 3 * 15 + 1, none⟩) hgB id).trans a4
        simp only [Nat.reduceMul, Nat.add_zero] at a1 a2 a3 a4
        have hm6 := hm5.trans hal
        have hs6 := repState.stays (fun p hp => hal.cell hp id) hst2
        have HSAME := Lib.hid fun W (hW : New (w5.alloc (.cells #[.int .i64 7, .slice (some ⟨gA, oA, none⟩) 4 cp, .slice (some ⟨gB, oB, none⟩) 4 cq] 30)) W) => same_state (repState.stays (fun p hp => (hm6.trans hW).cell hp id) HSTA.out) (repState.stays (fun p hp => (hm6.trans hW).cell hp id) HSTA.out) (hm6.trans hW).size
        have HSAM2 := Lib.hid fun W (hW : New (w5.alloc (.cells #[.int .i64 7, .slice (some ⟨gA, oA, none⟩) 4 cp, .slice (some ⟨gB, oB, none⟩) 4 cq] 30)) W) => same_state (repState.more (hm6.trans hW).size (repState.stays (fun p hp => (hm6.trans hW).cell hp id) HSTA.out)) (repState.more (hal.trans hW).size (repState.stays (fun p hp => (hal.trans hW).cell hp id) hst2)) (Nat.le_refl _)
        rw [eqb_true rfl] at HSAME
        rw [aNe] at HSAM2
        have HAL := Lib.hid hal
        have HBT := Lib.hid hbt
        have HM6 := Lib.hid hm6
        clear hal hbt hm6
        clear ho1 ho2 hst2 hs6 hm5 hcA hcB hgA hgB c1 c2 c3 c4
        go_upto_region 9 with (fail)
        generalize w5.alloc (.cells #[.int .i64 7, .slice (some ⟨gA, oA, none⟩) 4 cp, .slice (some ⟨gB, oB, none⟩) 4 cq] 30) = w6 at *
        generalize w5.heap.size = gt at *
        have t0 := HBT.out.cell 0
        have t1 := HBT.out.cell 1
        have t2 := HBT.out.cell 2
        have hb2 := HB2.out.kept HM6.out id
        have y0 := hb2.cell 0
        have y1 := hb2.cell 1
        have y2 := hb2.cell 2
        have y3 := hb2.cell 3
        have y4 := hb2.cell 4
        have y5 := hb2.cell 5
        have y6 := hb2.cell 6
        simp only [List.getElem?_toArray, List.getElem?_cons_zero, List.getElem?_cons_succ] at t0 t1 t2 y0 y1 y2 y3 y4 y5 y6
        clear hb2
        go_wp2_with fail
        have HALL : Hid (∀ W, New w6 W → W.cell? ⟨b + 2, 0, none⟩ = some (.slice (some ⟨b, 0, none⟩) 4 4) ∧ W.cell? ⟨b + 2, 1, none⟩ = some (.slice none 0 0) ∧ W.cell? ⟨b + 2, 2, none⟩ = some (.int .i64 0) ∧ W.cell? ⟨b + 2, 3, none⟩ = some (.int .i64 0) ∧ W.cell? ⟨b + 2, 4, none⟩ = some (.int .i64 0) ∧ W.cell? ⟨b + 2, 5, none⟩ = some (.int .i64 0) ∧ W.cell? ⟨b + 2, 6, none⟩ = some (.slice (some ⟨b + 1, 0, none⟩) 4 4) ∧ W.cell? ⟨gz, 0, none⟩ = some (.int .i64 7) ∧ W.cell? ⟨gz, 1, none⟩ = some (.slice (some ⟨gp, 0, none⟩) 4 4) ∧ W.cell? ⟨gz, 2, none⟩ = some (.slice (some ⟨gq, 0, none⟩) 4 4) ∧ W.cell? ⟨gt, 0, none⟩ = some (.int .i64 7) ∧ W.cell? ⟨gt, 1, none⟩ = some (.slice (some ⟨gA, oA, none⟩) 4 cp) ∧ W.cell? ⟨gt, 2, none⟩ = some (.slice (some ⟨gB, oB, none⟩) 4 cq)) := Lib.hid fun W hW => by
          have h1 := HB2.out.kept (HM6.out.trans hW) id
          have h2 := HBZ2.out.kept (HM6.out.trans hW) id
          have h3 := HBT.out.kept hW id
          exact ⟨h1.cell 0, h1.cell 1, h1.cell 2, h1.cell 3, h1.cell 4, h1.cell 5, h1.cell 6, h2.cell 0, h2.cell 1, h2.cell 2, h3.cell 0, h3.cell 1, h3.cell 2⟩
        refine (HS1.out _ HM6.out).mono ?_
        rintro e w7 ⟨rfl, hm7⟩
        obtain ⟨y0, y1, y2, y3, y4, y5, y6, z0, z1, z2, t0, t1, t2⟩ := HALL.out w7 hm7
        have HM7 := Lib.hid hm7
        clear hm7
        go_wp2_with fail
        refine (HS2.out _ (HM6.out.trans HM7.out)).mono ?_
        rintro e w8 ⟨rfl, hm8⟩
        have hm8 := HM7.out.trans hm8
        obtain ⟨y0, y1, y2, y3, y4, y5, y6, z0, z1, z2, t0, t1, t2⟩ := HALL.out w8 hm8
        have HM8 := Lib.hid hm8
        clear hm8
        go_wp2_with fail
        refine (HSAME.out _ HM8.out).mono ?_
        rintro e w9 ⟨rfl, hm9⟩
        have hm9 := HM8.out.trans hm9
        obtain ⟨y0, y1, y2, y3, y4, y5, y6, z0, z1, z2, t0, t1, t2⟩ := HALL.out w9 hm9
        have HM9 := Lib.hid hm9
        clear hm9
        go_wp2_with fail
        refine (HSAM2.out _ HM9.out).mono ?_
        rintro e wa ⟨rfl, hma⟩
        have hend := HNW.out.trans (HM6.out.trans (HM9.out.trans hma))
        have HEND := Lib.hid hend
        clear hend
        clear hma
        go_wp2_with fail
        go_ret
        exact ⟨rfl, HEND.out⟩
end Go.Proofs.Ytgdmajockejpgaa.View
