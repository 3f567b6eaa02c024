/- Configs; who sees which partition and process (layer 18). -/
import Derived.Test.YtgdmajockejpgaaViewM
import Derived.StillTailTactics
namespace Go.Proofs.Ytgdmajockejpgaa.View
open Go.RowKit Go.Fb
set_option linter.unusedVariables false
structure Config where
  labels : List Int
  procs : List Int
def repPr : Rep Int where
  size := 2
  cells _ _ x cs := ∃ A n c, cs = [.int .i64 x, .slice A n c] ∧ wfI x
  length h := by obtain ⟨_, _, _, h, _⟩ := h; rw [h]; rfl
  stays _ h := h
  more _ h := h
def repConf : Rep Config where
  size := 7
  cells w B x cs := ∃ Al nl cl v1 v2 v3 v4 v5 Ap np cp, cs = [.slice Al nl cl, v1, v2, v3, v4, v5, .slice Ap np cp] ∧ (v1.oneCell' = true ∧ v2.oneCell' = true ∧ v3.oneCell' = true ∧ v4.oneCell' = true ∧ v5.oneCell' = true) ∧ SliceOf (Rep.int .u64) w B Al nl cl x.labels ∧ SliceOf repPr w B Ap np cp x.procs
  length h := by obtain ⟨_, _, _, _, _, _, _, _, _, _, _, h, _⟩ := h; rw [h]; rfl
  stays hw h := by obtain ⟨a1, a2, a3, b1, b2, b3, b4, b5, a4, a5, a6, h, ho, h1, h2⟩ := h; exact ⟨a1, a2, a3, b1, b2, b3, b4, b5, a4, a5, a6, h, ho, h1.stays hw, h2.stays hw⟩
  more hw h := by obtain ⟨a1, a2, a3, b1, b2, b3, b4, b5, a4, a5, a6, h, ho, h1, h2⟩ := h; exact ⟨a1, a2, a3, b1, b2, b3, b4, b5, a4, a5, a6, h, ho, h1.more hw, h2.more hw⟩
def partB (l : List Int) (i a : Int) : Bool := if 0 ≤ i ∧ i < l.length then flB (l.getD i.toNat 0) a else false
def seesB (c : Config) (p a : Int) : Bool := if 0 ≤ p ∧ p < c.procs.length then partB c.labels (c.procs.getD p.toNat 0) a else false
theorem getD_at {α : Type} (l : List α) (d : α) (i : Nat) (h : i < l.length) : l.getD i d = l[i] := by rw [List.getD_eq_getElem?_getD, List.getElem?_eq_getElem h]; rfl
set_option maxHeartbeats 1000000 in
theorem part_any {w : World} {B : Nat} {c : Config} {v0 v1 v2 v3 v4 v5 v6 : Value} (h : repConf.cells w B c [v0, v1, v2, v3, v4, v5, v6]) (hB : B ≤ w.heap.size) (i a : Int) :
    Calls Try.prog 17 #[.agg #[v0, v1, v2, v3, v4, v5, v6], .int .i64 i, .int .u64 a] w fun e w' => e = .returned (.bool (partB c.labels i a)) ∧ New w w' := by
  obtain ⟨Al, nl, cl, u1, u2, u3, u4, u5, Ap, np, cp, e, ho, hl, hp⟩ := h
  simp only [List.cons.injEq, and_true] at e
  obtain ⟨rfl, rfl, rfl, rfl, rfl, rfl, rfl⟩ := e
  obtain ⟨o1, o2, o3, o4, o5⟩ := ho
  have hn : New w (w.alloc (.cells #[.slice Al nl cl, v1, v2, v3, v4, v5, .slice Ap np cp] 26)) := (Kept.refl _ _).alloc _
  have hl2 := hl.kept hn hB fun _ _ h => h
  have hbx := Blk.made w 26 #[.slice Al nl cl, v1, v2, v3, v4, v5, .slice Ap np cp]
  have z0 := hbx.cell 0
  simp only [List.getElem?_toArray, List.getElem?_cons_zero, List.getElem?_cons_succ] at z0
  have hb := hl.bound
  have HW : Hid (∀ k (h : k < c.labels.length), wfU c.labels[k]) := Lib.hid fun k h => hl.wf _ (List.getElem_mem h)
  have hll := hl.len
  unfold partB
  have HN := Lib.hid hn
  have HL2 := Lib.hid hl2
  have HLL := Lib.hid hll
  clear hn hl2 hll
  clear hl hbx hp o1 o2 o3 o4 o5
  by_cases hi : 0 ≤ i ∧ i < c.labels.length
  · obtain ⟨k, rfl⟩ : ∃ k : Nat, i = k := ⟨i.toNat, by omega⟩
    have hkl : k < c.labels.length := by omega
    rw [if_pos hi, Int.toNat_natCast, getD_at _ _ _ hkl]
    obtain ⟨g, o, rfl, hg, hc⟩ := HL2.out.ints (by have := HLL.out; omega)
    have y0 := hc k hkl
    have e2 : (0 : Int) ≤ (k : Int) := by omega
    have e3 : (k : Int) < (nl : Int) := by have := HLL.out; omega
    have HF := Lib.hid fun W => flows_any c.labels[k] a W
    clear hi hc
    go_enter Try.func17, Try.ntmps17
    go_upto_region 1 with (fail)
    generalize w.alloc (.cells #[.slice (some ⟨g, o, none⟩) nl cl, v1, v2, v3, v4, v5, .slice Ap np cp] 26) = w1 at *
    generalize w.heap.size = b at *
    go_wp2_with fail
    refine (HF.out _).mono ?_
    rintro e w2 ⟨rfl, rfl⟩
    go_wp2_with fail
    go_ret
    exact ⟨rfl, HN.out⟩
  · rw [if_neg hi]
    by_cases h0 : 0 ≤ i
    · have h1 : (nl : Int) ≤ i := by have := HLL.out; omega
      clear hi
      go_enter Try.func17, Try.ntmps17
      go_upto_region 1 with (fail)
      generalize w.alloc (.cells #[.slice Al nl cl, v1, v2, v3, v4, v5, .slice Ap np cp] 26) = w1 at *
      generalize w.heap.size = b at *
      go_wp2_with fail
      go_ret
      exact ⟨rfl, HN.out⟩
    · have h1 : i < 0 := by omega
      clear hi h0
      go_enter Try.func17, Try.ntmps17
      go_upto_region 1 with (fail)
      generalize w.alloc (.cells #[.slice Al nl cl, v1, v2, v3, v4, v5, .slice Ap np cp] 26) = w1 at *
      generalize w.heap.size = b at *
      go_wp2_with fail
      go_ret
      exact ⟨rfl, HN.out⟩
set_option maxHeartbeats 1000000 in
theorem rpart_any {w : World} {B : Nat} {c : Config} {v0 v1 v2 v3 v4 v5 v6 : Value} (h : repConf.cells w B c [v0, v1, v2, v3, v4, v5, v6]) (hB : B ≤ w.heap.size) (i a : Int) (hwa : wfU a) :
    Calls Try.prog 20 #[.agg #[v0, v1, v2, v3, v4, v5, v6], .int .i64 i, .int .u64 a] w fun e w' => e = .returned (.bool (partB c.labels i a)) ∧ New w w' := by
  obtain ⟨Al, nl, cl, u1, u2, u3, u4, u5, Ap, np, cp, e, ho, hl, hp⟩ := h
  simp only [List.cons.injEq, and_true] at e
  obtain ⟨rfl, rfl, rfl, rfl, rfl, rfl, rfl⟩ := e
  obtain ⟨o1, o2, o3, o4, o5⟩ := ho
  have hn : New w (w.alloc (.cells #[.slice Al nl cl, v1, v2, v3, v4, v5, .slice Ap np cp] 26)) := (Kept.refl _ _).alloc _
  have hl2 := hl.kept hn hB fun _ _ h => h
  have hbx := Blk.made w 26 #[.slice Al nl cl, v1, v2, v3, v4, v5, .slice Ap np cp]
  have z0 := hbx.cell 0
  simp only [List.getElem?_toArray, List.getElem?_cons_zero, List.getElem?_cons_succ] at z0
  have hb := hl.bound
  have HW : Hid (∀ k (h : k < c.labels.length), wfU c.labels[k]) := Lib.hid fun k h => hl.wf _ (List.getElem_mem h)
  have HWA := Lib.hid hwa
  clear hwa
  have hll := hl.len
  unfold partB
  have HN := Lib.hid hn
  have HL2 := Lib.hid hl2
  have HLL := Lib.hid hll
  clear hn hl2 hll
  clear hl hbx hp o1 o2 o3 o4 o5
  by_cases hi : 0 ≤ i ∧ i < c.labels.length
  · obtain ⟨k, rfl⟩ : ∃ k : Nat, i = k := ⟨i.toNat, by omega⟩
    have hkl : k < c.labels.length := by omega
    rw [if_pos hi, Int.toNat_natCast, getD_at _ _ _ hkl]
    obtain ⟨g, o, rfl, hg, hc⟩ := HL2.out.ints (by have := HLL.out; omega)
    have y0 := hc k hkl
    have e2 : (0 : Int) ≤ (k : Int) := by omega
    have e3 : (k : Int) < (nl : Int) := by have := HLL.out; omega
    have HF := Lib.hid fun W => rflows_any (HW.out k hkl) HWA.out W
    clear hi hc
    go_enter Try.func20, Try.ntmps20
    go_upto_region 1 with (fail)
    generalize w.alloc (.cells #[.slice (some ⟨g, o, none⟩) nl cl, v1, v2, v3, v4, v5, .slice Ap np cp] 26) = w1 at *
    generalize w.heap.size = b at *
    go_wp2_with fail
    refine (HF.out _).mono ?_
    rintro e w2 ⟨rfl, rfl⟩
    go_wp2_with fail
    go_ret
    exact ⟨rfl, HN.out⟩
  · rw [if_neg hi]
    by_cases h0 : 0 ≤ i
    · have h1 : (nl : Int) ≤ i := by have := HLL.out; omega
      clear hi
      go_enter Try.func20, Try.ntmps20
      go_upto_region 1 with (fail)
      generalize w.alloc (.cells #[.slice Al nl cl, v1, v2, v3, v4, v5, .slice Ap np cp] 26) = w1 at *
      generalize w.heap.size = b at *
      go_wp2_with fail
      go_ret
      exact ⟨rfl, HN.out⟩
    · have h1 : i < 0 := by omega
      clear hi h0
      go_enter Try.func20, Try.ntmps20
      go_upto_region 1 with (fail)
      generalize w.alloc (.cells #[.slice Al nl cl, v1, v2, v3, v4, v5, .slice Ap np cp] 26) = w1 at *
      generalize w.heap.size = b at *
      go_wp2_with fail
      go_ret
      exact ⟨rfl, HN.out⟩
set_option maxHeartbeats 2000000 in
theorem sees_any {w : World} {B : Nat} {c : Config} {v0 v1 v2 v3 v4 v5 v6 : Value} (h : repConf.cells w B c [v0, v1, v2, v3, v4, v5, v6]) (hB : B ≤ w.heap.size) (i a : Int) :
    Calls Try.prog 11 #[.agg #[v0, v1, v2, v3, v4, v5, v6], .int .i64 i, .int .u64 a] w fun e w' => e = .returned (.bool (seesB c i a)) ∧ New w w' := by
  have h0 := h
  obtain ⟨Al, nl, cl, u1, u2, u3, u4, u5, Ap, np, cp, e, ho, hl, hp⟩ := h
  simp only [List.cons.injEq, and_true] at e
  obtain ⟨rfl, rfl, rfl, rfl, rfl, rfl, rfl⟩ := e
  obtain ⟨o1, o2, o3, o4, o5⟩ := ho
  have hn : New w (w.alloc (.cells #[.slice Al nl cl, v1, v2, v3, v4, v5, .slice Ap np cp] 26)) := (Kept.refl _ _).alloc _
  have hp2 := hp.kept hn hB fun _ _ h => h
  have HPT := Lib.hid fun W (hW : New w W) i => part_any (repConf.stays (fun p hp => hW.cell (Nat.lt_of_lt_of_le hp hB) id) h0) (Nat.le_trans hB hW.size) i a
  have hbx := Blk.made w 26 #[.slice Al nl cl, v1, v2, v3, v4, v5, .slice Ap np cp]
  have z0 := hbx.cell 0
  have z1 := hbx.cell 1
  have z2 := hbx.cell 2
  have z3 := hbx.cell 3
  have z4 := hbx.cell 4
  have z5 := hbx.cell 5
  have z6 := hbx.cell 6
  simp only [List.getElem?_toArray, List.getElem?_cons_zero, List.getElem?_cons_succ] at z0 z1 z2 z3 z4 z5 z6
  have hb := hp.bound
  have hll := hp.len
  unfold seesB
  have HN := Lib.hid hn
  have HP2 := Lib.hid hp2
  have HLL := Lib.hid hll
  clear hn hp2 hll
  clear hl hbx hp h0
  by_cases hi : 0 ≤ i ∧ i < c.procs.length
  · obtain ⟨k, rfl⟩ : ∃ k : Nat, i = k := ⟨i.toNat, by omega⟩
    have hkl : k < c.procs.length := by omega
    rw [if_pos hi, Int.toNat_natCast, getD_at _ _ _ hkl]
    obtain ⟨g, o, rfl, hg, hc⟩ := HP2.out.get (by have := HLL.out; omega)
    obtain ⟨es, y, A', n', c', rfl, hwf⟩ := hc k hkl
    have y0 := y 0 (by decide)
    simp only [repPr, Nat.add_zero, List.getElem?_cons_zero] at y0
    have e2 : (0 : Int) ≤ (k : Int) := by omega
    have e3 : (k : Int) < (np : Int) := by have := HLL.out; omega
    have HE := Lib.hid fun W (hW : New w W) => HPT.out W hW c.procs[k]
    clear hi hc y HP2
    generalize c.procs[k] = pk at *
    generalize partB c.labels pk a = res at *
    go_enter Try.func11, Try.ntmps11
    go_upto_region 1 with (fail)
    generalize w.alloc (.cells #[.slice Al nl cl, v1, v2, v3, v4, v5, .slice (some ⟨g, o, none⟩) np cp] 26) = w1 at *
    generalize w.heap.size = b at *
    have HN2 : Hid (New w w1.drew) := Lib.hid HN.out.drew
    go_still_tail 18, (by kernel_rfl)
    change wpList _ _ _ _ _ w1.drew
    have HPT2 := Lib.hid (HE.out w1.drew HN2.out)
    generalize w1.drew = w2 at *
    go_wp2_with fail
    refine HPT2.out.mono ?_
    rintro e w3 ⟨rfl, hk3⟩
    have hk3 := HN2.out.trans hk3
    have HK3 := Lib.hid hk3
    clear hk3
    go_wp2_with fail
    go_ret
    exact ⟨rfl, HK3.out⟩
  · rw [if_neg hi]
    by_cases h0 : 0 ≤ i
    · have h1 : (np : Int) ≤ i := by have := HLL.out; omega
      have h2 : decide (i < (np : Int)) = false := by simpa using h1
      clear hi
      go_enter Try.func11, Try.ntmps11
      go_upto_region 1 with (fail)
      generalize w.alloc (.cells #[.slice Al nl cl, v1, v2, v3, v4, v5, .slice Ap np cp] 26) = w1 at *
      generalize w.heap.size = b at *
      go_quiet (fail)
      go_wp2_with fail
      go_ret
      exact ⟨rfl, Kept.drewN HN.out _⟩
    · have h1 : i < 0 := by omega
      have h2 : decide (0 ≤ i) = false := by simpa using h1
      clear hi h0
      go_enter Try.func11, Try.ntmps11
      go_upto_region 1 with (fail)
      generalize w.alloc (.cells #[.slice Al nl cl, v1, v2, v3, v4, v5, .slice Ap np cp] 26) = w1 at *
      generalize w.heap.size = b at *
      go_quiet (fail)
      go_wp2_with fail
      go_ret
      exact ⟨rfl, Kept.drewN HN.out _⟩
set_option maxHeartbeats 2000000 in
theorem rsees_any {w : World} {B : Nat} {c : Config} {v0 v1 v2 v3 v4 v5 v6 : Value} (h : repConf.cells w B c [v0, v1, v2, v3, v4, v5, v6]) (hB : B ≤ w.heap.size) (i a : Int) (hwa : wfU a) :
    Calls Try.prog 12 #[.agg #[v0, v1, v2, v3, v4, v5, v6], .int .i64 i, .int .u64 a] w fun e w' => e = .returned (.bool (seesB c i a)) ∧ New w w' := by
  have h0 := h
  obtain ⟨Al, nl, cl, u1, u2, u3, u4, u5, Ap, np, cp, e, ho, hl, hp⟩ := h
  simp only [List.cons.injEq, and_true] at e
  obtain ⟨rfl, rfl, rfl, rfl, rfl, rfl, rfl⟩ := e
  obtain ⟨o1, o2, o3, o4, o5⟩ := ho
  have hn : New w (w.alloc (.cells #[.slice Al nl cl, v1, v2, v3, v4, v5, .slice Ap np cp] 26)) := (Kept.refl _ _).alloc _
  have hp2 := hp.kept hn hB fun _ _ h => h
  have HPT := Lib.hid fun W (hW : New w W) i => rpart_any (repConf.stays (fun p hp => hW.cell (Nat.lt_of_lt_of_le hp hB) id) h0) (Nat.le_trans hB hW.size) i a hwa
  have hbx := Blk.made w 26 #[.slice Al nl cl, v1, v2, v3, v4, v5, .slice Ap np cp]
  have z0 := hbx.cell 0
  have z1 := hbx.cell 1
  have z2 := hbx.cell 2
  have z3 := hbx.cell 3
  have z4 := hbx.cell 4
  have z5 := hbx.cell 5
  have z6 := hbx.cell 6
  simp only [List.getElem?_toArray, List.getElem?_cons_zero, List.getElem?_cons_succ] at z0 z1 z2 z3 z4 z5 z6
  have hb := hp.bound
  have hll := hp.len
  unfold seesB
  have HN := Lib.hid hn
  have HP2 := Lib.hid hp2
  have HLL := Lib.hid hll
  clear hn hp2 hll
  clear hl hbx hp h0
  by_cases hi : 0 ≤ i ∧ i < c.procs.length
  · obtain ⟨k, rfl⟩ : ∃ k : Nat, i = k := ⟨i.toNat, by omega⟩
    have hkl : k < c.procs.length := by omega
    rw [if_pos hi, Int.toNat_natCast, getD_at _ _ _ hkl]
    obtain ⟨g, o, rfl, hg, hc⟩ := HP2.out.get (by have := HLL.out; omega)
    obtain ⟨es, y, A', n', c', rfl, hwf⟩ := hc k hkl
    have y0 := y 0 (by decide)
    simp only [repPr, Nat.add_zero, List.getElem?_cons_zero] at y0
    have e2 : (0 : Int) ≤ (k : Int) := by omega
    have e3 : (k : Int) < (np : Int) := by have := HLL.out; omega
    have HE := Lib.hid fun W (hW : New w W) => HPT.out W hW c.procs[k]
    clear hi hc y HP2
    generalize c.procs[k] = pk at *
    generalize partB c.labels pk a = res at *
    go_enter Try.func12, Try.ntmps12
    go_upto_region 1 with (fail)
    generalize w.alloc (.cells #[.slice Al nl cl, v1, v2, v3, v4, v5, .slice (some ⟨g, o, none⟩) np cp] 26) = w1 at *
    generalize w.heap.size = b at *
    have HN2 : Hid (New w w1.drew) := Lib.hid HN.out.drew
    go_still_tail 18, (by kernel_rfl)
    change wpList _ _ _ _ _ w1.drew
    have HPT2 := Lib.hid (HE.out w1.drew HN2.out)
    generalize w1.drew = w2 at *
    go_wp2_with fail
    refine HPT2.out.mono ?_
    rintro e w3 ⟨rfl, hk3⟩
    have hk3 := HN2.out.trans hk3
    have HK3 := Lib.hid hk3
    clear hk3
    go_wp2_with fail
    go_ret
    exact ⟨rfl, HK3.out⟩
  · rw [if_neg hi]
    by_cases h0 : 0 ≤ i
    · have h1 : (np : Int) ≤ i := by have := HLL.out; omega
      have h2 : decide (i < (np : Int)) = false := by simpa using h1
      clear hi
      go_enter Try.func12, Try.ntmps12
      go_upto_region 1 with (fail)
      generalize w.alloc (.cells #[.slice Al nl cl, v1, v2, v3, v4, v5, .slice Ap np cp] 26) = w1 at *
      generalize w.heap.size = b at *
      go_quiet (fail)
      go_wp2_with fail
      go_ret
      exact ⟨rfl, Kept.drewN HN.out _⟩
    · have h1 : i < 0 := by omega
      have h2 : decide (0 ≤ i) = false := by simpa using h1
      clear hi h0
      go_enter Try.func12, Try.ntmps12
      go_upto_region 1 with (fail)
      generalize w.alloc (.cells #[.slice Al nl cl, v1, v2, v3, v4, v5, .slice Ap np cp] 26) = w1 at *
      generalize w.heap.size = b at *
      go_quiet (fail)
      go_wp2_with fail
      go_ret
      exact ⟨rfl, Kept.drewN HN.out _⟩
end Go.Proofs.Ytgdmajockejpgaa.View
