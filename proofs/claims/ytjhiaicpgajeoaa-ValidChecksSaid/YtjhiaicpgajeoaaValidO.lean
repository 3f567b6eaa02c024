/- The walk of ValidChecks (layer 8). -/
import Derived.Test.YtjhiaicpgajeoaaValidM
import Derived.Laws.CopyOwn
import Derived.Laws.MakeOwn
import Derived.BigQuiet
import Derived.Deep.RegionHeld3
namespace Go.Fb
open Go.RowKit
set_option linter.unusedVariables false
theorem Kept.setRow {g : Nat} (w : World) (cs : Array Value) : Kept (fun k => k = g) w (w.setRow g cs) :=
  ⟨rfl, rfl, rfl, by simp [World.setRow], fun k hk hn => setRow_other w g k cs (by omega)⟩
/-- copy into a block of the call's own, of things of any size. -/
theorem run_copy_sz {P : Program} (w : World) (dT sT elem : TypeId) (hu : P.underlying dT = some (.slice elem)) {sz : Nat} (hs : (P.info? elem).map (·.size) = some sz) (g dLen dCap : Nat) (A : Option Addr) (n c : Nat) (cur : Array Value) (Ty : TypeId)
    (hg : Blk w g Ty cur) (cs : List Value) (hle : n ≤ dLen) (hsrc : (Builtin.firstCells sz n (.slice A n c)).run P w = .ok cs.toArray w) (hfit : cs.length ≤ cur.size) (h1 : ∀ v ∈ cs, v.oneCell' = true) :
    ∃ w', (∀ ty, (Builtin.copy_ #[dT, sT] ty #[.slice (some ⟨g, 0, none⟩) dLen dCap, .slice A n c]).run P w = .ok (.int .i64 n) w') ∧ Blk w' g Ty (cs ++ cur.toList.drop cs.length).toArray ∧ Kept (fun k => k = g) w w' := by
  have hst := run_storeCells_at P g 0 Ty cs 0 cur w hg (by simpa using hfit) h1
  refine ⟨w.setRow g ((cur.toList.take (0 + 0) ++ cs ++ cur.toList.drop (0 + 0 + cs.length)).toArray), fun ty => ?_, ?_, Kept.setRow _ _⟩
  · cases hq : P.info? elem with
    | none => simp [hq] at hs
    | some i =>
      have hi : i.size = sz := by simpa [hq] using hs
      have hmn : Nat.min n dLen = n := Nat.min_eq_left hle
      simp [Builtin.copy_, run_underlying hu, Builtin.lenOf, sizeOf, typeInfo, hq, hi, hmn, hsrc, hst, goInt]
  · have := setRow_heap w g cur (cur.toList.take (0 + 0) ++ cs ++ cur.toList.drop (0 + 0 + cs.length)).toArray Ty (0, 0) hg
    unfold Blk
    rw [this]
    simp
end Go.Fb
namespace Go.Proofs.Ytjhiaicpgajeoaa.Valid
open Go.RowKit Go.Fb Go.BytesP Go.CodeP Go.ValidP
open Go.Proofs.Ytjhiaicpgajeoaa.Code (repIns ins_at ins_wf cellsI Wf)
set_option linter.unusedVariables false
theorem same_true (A A' : Option Addr) (n n' c c' B B' : Nat) (l : List Ins) (w : World) (ha : SliceOf repIns w B A n c l) (hb : SliceOf repIns w B' A' n' c' l) :
    Calls Try.prog 13 #[.slice A n c, .slice A' n' c'] w fun e w' => e = .returned (.bool true) ∧ New w w' := by
  obtain rfl : n' = n := by rw [hb.len, ha.len]
  have hbd := ha.bound
  have hbd' := hb.bound
  have HN := Lib.hid ha.len
  have HA := Lib.hid ha
  have HB := Lib.hid hb
  clear ha hb
  go_enter Try.func13, Try.ntmps13
  go_wp2_with fail
  go_loopw [5] (fun i wr => ∃ k : Nat, k ≤ n' ∧ i = .int .i64 k ∧ ∃ q, wr = w.drewN q) (fun i _ => (n' - intOf i).toNat)
  case atStart => exact ⟨0, by omega, rfl, 0, rfl⟩
  case round =>
    obtain ⟨k, hk, rfl, q, rfl⟩ := hrel
    by_cases hlt : k < n'
    · have hkl : k < l.length := by have := HN.out; omega
      obtain ⟨b, o, rfl, _, h1⟩ := ins_at HA.out (by omega)
      obtain ⟨b', o', rfl, _, h2⟩ := ins_at HB.out (by omega)
      obtain ⟨c0, c1, c2, c3, c4⟩ := h1 k hkl
      obtain ⟨d0, d1, d2, d3, d4⟩ := h2 k hkl
      have hlt' : (k : Int) < (n' : Int) := by omega
      clear h1 h2
      generalize l[k] = s at *
      go_wp2_with fail
      go_quiet (fail)
      go_wp2_with fail
      exact ⟨⟨k + 1, by omega, by go_num, _, rfl⟩, by simp [intOf]; omega⟩
    · obtain rfl : k = n' := by omega
      go_wp2_with fail
      go_ret
      exact ⟨rfl, (Kept.refl _ _).drewN _⟩
theorem tyIns : SliceTy Try.prog 23 25 5 40 := by
  obtain ⟨i, hi, hz, hs, hb⟩ := info_parts (P := Try.prog) (e := 25) (z := .agg #[.int .i64 0, .int .i64 0, .int .i64 0, .int .i64 0, .int .i64 0]) (size := 5) (bytes := 40) (by kernel_rfl)
  exact ⟨Try.underlying23, ⟨i, _, hi, hz, hs, hb, rfl⟩, by decide⟩
/-- The cells of a list of instructions, read off. -/
theorem first_ins {w : World} {B : Nat} {A : Option Addr} {n c : Nat} {l : List Ins} (h : SliceOf repIns w B A n c l) : (Builtin.firstCells 5 n (.slice A n c)).run Try.prog w = .ok (l.flatMap cellsI).toArray w := by
  have hln := h.len
  have hfl : (l.flatMap cellsI).length = n * 5 := by rw [hln]; exact flatMap_len l fun _ _ => rfl
  by_cases h0 : n = 0
  · subst h0
    obtain rfl : l = [] := List.eq_nil_of_length_eq_zero hln.symm
    cases A with
    | none => exact run_firstCells_none w _ 0 0 c
    | some a => exact run_firstCells_some w _ 0 a 0 c [] (by simp) (by simp)
  · obtain ⟨b, o, rfl, -, hc⟩ := h.get (by omega)
    refine run_firstCells_some w 5 n _ n c _ hfl fun j u hu => ?_
    have hj : j < n * 5 := by
      rcases Nat.lt_or_ge j (l.flatMap cellsI).length with h | h
      · omega
      · rw [List.getElem?_eq_none h] at hu; cases hu
    have hi : j / 5 < l.length := by omega
    obtain ⟨es, g1, g2⟩ := hc (j / 5) hi
    have e1 := g1 (j % 5) (Nat.mod_lt _ (by decide))
    have e2 := flatMap_get l (f := cellsI) (size := 5) (fun _ _ => rfl) (j / 5) hi (j % 5) (Nat.mod_lt _ (by decide))
    have e3 : j / 5 * 5 + j % 5 = j := by omega
    rw [e3] at e2
    have e4 : o + j / 5 * repIns.size + j % 5 = o + j := by show o + j / 5 * 5 + j % 5 = _; omega
    rw [e4] at e1
    rw [add_eq, e1, g2.1, ← e2]
    exact hu
theorem set_tail {F R : List Value} {k j : Nat} (hF : F.length = k) (v : Value) : (F ++ R).toArray.setIfInBounds (k + j) v = (F ++ R.set j v).toArray := by
  subst hF
  simp
theorem blk_tail {w : World} {g k j : Nat} {T : TypeId} {F R : List Value} (h : Blk w g T (F ++ R).toArray) (hF : F.length = k) (v : Value) : Blk (w.setCell ⟨g, k + j, none⟩ v) g T (F ++ R.set j v).toArray := by
  have := h.set (i := k + j) v
  rwa [set_tail hF] at this
theorem blk_tail0 {w : World} {g k : Nat} {T : TypeId} {F R : List Value} (h : Blk w g T (F ++ R).toArray) (hF : F.length = k) (v : Value) : Blk (w.setCell ⟨g, k, none⟩ v) g T (F ++ R.set 0 v).toArray := blk_tail (j := 0) h hF v
def m7 : Ins := ⟨-7, 0, 0, 0, 7⟩
def m8 : Ins := ⟨-8, 0, 0, 0, 8⟩
set_option maxRecDepth 100000 in
set_option maxHeartbeats 8000000 in
theorem checks_walk {A : Option Addr} {n c : Nat} {l : List Ins} {w : World} {locks hold : Int} (hl : SliceOf repIns w w.heap.size A n c l) (hwf : (Lit.int .i64 hold).wf = true) :
    Calls Try.prog 4 #[.slice A n c, .int .i64 locks, .int .i64 hold] w fun e w' => e = .returned (.bool true) ∧ New w w' := by
  have hbd := hl.bound
  obtain ⟨m, hm⟩ : ∃ m, m = min n 1048576 := ⟨_, rfl⟩
  have hmn : min (n : Int) 1048576 = (m : Int) := by omega
  have hl2 := hl.take (k := m) (c' := c) (by omega) (by omega) hbd.2
  have hm9 : m ≤ 1048576 := by omega
  have hmc : m ≤ n := by omega
  clear hm hl
  generalize l.take m = L at *
  have hln := hl2.len
  obtain ⟨z, cs, -, -, hcs, hmk⟩ := run_make_ty (P := Try.prog) tyIns (li := (m : Int) + 2) (ci := (m : Int) + 2) (m + 2) (m + 2) (by omega) (by omega) (by omega) (by omega) (by omega)
  have HL2 := Lib.hid hl2
  have HLN := Lib.hid hln
  clear hl2 hln
  go_enter Try.func4, Try.ntmps4
  go_upto_region 3 with (fail)
  have hbk := Blk.made w 25 cs.toArray
  have hn1 : New w (w.alloc (.cells cs.toArray 25)) := (Kept.refl _ _).alloc _
  generalize w.alloc (.cells cs.toArray 25) = w1 at *
  obtain ⟨go, hgo⟩ : ∃ go, go = w.heap.size := ⟨_, rfl⟩
  rw [← hgo] at hbk ⊢
  have hl1 : SliceOf repIns w1 w.heap.size A m c L := HL2.out.kept hn1 (Nat.le_refl _) fun _ _ h => h
  have hfl : (L.flatMap cellsI).length = m * 5 := by rw [HLN.out]; exact flatMap_len L fun _ _ => rfl
  obtain ⟨w2, hcopy, hb2, hk2⟩ := run_copy_sz (P := Try.prog) w1 23 23 25 Try.underlying23 (sz := 5) (by kernel_rfl) go (m + 2) (m + 2) A m c cs.toArray 25 hbk (L.flatMap cellsI) (by omega) (first_ins hl1) (by rw [hfl, List.size_toArray, hcs]; omega) (by
    intro u hu
    obtain ⟨x, -, hx⟩ := List.mem_flatMap.1 hu
    simp only [cellsI, List.mem_cons, List.not_mem_nil, or_false] at hx
    rcases hx with rfl | rfl | rfl | rfl | rfl <;> rfl)
  have hdl : (cs.drop (L.flatMap cellsI).length).length = 10 := by rw [List.length_drop, hfl, hcs]; omega
  have hb2 : Blk w2 go 25 (L.flatMap cellsI ++ cs.drop (L.flatMap cellsI).length).toArray := hb2
  generalize cs.drop (L.flatMap cellsI).length = R at *
  match R, hdl with
  | [r0, r1, r2, r3, r4, r5, r6, r7, r8, r9], _ =>
  have hget : ∀ j, (L.flatMap cellsI ++ [r0, r1, r2, r3, r4, r5, r6, r7, r8, r9]).toArray[m * 5 + j]? = [r0, r1, r2, r3, r4, r5, r6, r7, r8, r9][j]? := fun j => by
    rw [List.getElem?_toArray, List.getElem?_append_right (by omega), hfl]; congr 1; omega
  have hcx : ∀ W, New w2 W → W.cell? ⟨go, m * 5, none⟩ = some r0 ∧ W.cell? ⟨go, m * 5 + 1, none⟩ = some r1 ∧ W.cell? ⟨go, m * 5 + 2, none⟩ = some r2 ∧ W.cell? ⟨go, m * 5 + 3, none⟩ = some r3 ∧ W.cell? ⟨go, m * 5 + 4, none⟩ = some r4 ∧ ∀ i, W.frozen? ⟨go, i, none⟩ = false := fun W hW =>
    have hb := hb2.kept hW id
    ⟨(hb.cell _).trans (hget 0), (hb.cell _).trans (hget 1), (hb.cell _).trans (hget 2), (hb.cell _).trans (hget 3), (hb.cell _).trans (hget 4), hb.free⟩
  have hn2 : New w w2 := hn1.step hk2 fun j hj e => by omega
  have HI := Lib.hid (fun W op x => ins_any op x W)
  have HGO := Lib.hid hgo
  have HL1 := Lib.hid hl1
  have HBK := Lib.hid hbk
  have HN1 := Lib.hid hn1
  have HB2 := Lib.hid hb2
  have HK2 := Lib.hid hk2
  have HN2 := Lib.hid hn2
  have HGET := Lib.hid hget
  have HFL := Lib.hid hfl
  clear hgo hl1 hbk hn1 hb2 hk2 hn2 hget hfl
  clear hmk hcs
  go_upto_region 4 with (fail)
  clear hcopy
  have hi1 := HI.out w2 (-7) 7
  have HCX := Lib.hid hcx
  have HI1 := Lib.hid hi1
  clear hi1
  clear hcx
  go_wp2_with fail
  refine HI1.out.mono ?_
  rintro e w3 ⟨rfl, hw3⟩
  obtain ⟨x0, x1, x2, x3, x4, f0⟩ := HCX.out w3 hw3
  have HW3 := Lib.hid hw3
  clear hw3
  go_upto_region 5 with (fail)
  have hb3 := HB2.out.kept HW3.out id
  have s1 := blk_tail0 hb3 HFL.out (.int .i64 (-7))
  have s2 := blk_tail (j := 1) s1 HFL.out (.int .i64 0)
  have s3 := blk_tail (j := 2) s2 HFL.out (.int .i64 0)
  have s4 := blk_tail (j := 3) s3 HFL.out (.int .i64 0)
  have s5 := blk_tail (j := 4) s4 HFL.out (.int .i64 7)
  have hk5 : Kept (fun j => j = go) w3 (((((w3.setCell ⟨go, m * 5, none⟩ (.int .i64 (-7))).setCell ⟨go, m * 5 + 1, none⟩ (.int .i64 0)).setCell ⟨go, m * 5 + 2, none⟩ (.int .i64 0)).setCell ⟨go, m * 5 + 3, none⟩ (.int .i64 0)).setCell ⟨go, m * 5 + 4, none⟩ (.int .i64 7)) :=
    ((((Kept.set1 w3 go _ _).trans (Kept.set1 _ go _ _)).trans (Kept.set1 _ go _ _)).trans (Kept.set1 _ go _ _)).trans (Kept.set1 _ go _ _)
  clear s1 s2 s3 s4 hb3 x0 x1 x2 x3 x4 f0
  generalize ((((w3.setCell ⟨go, m * 5, none⟩ (.int .i64 (-7))).setCell ⟨go, m * 5 + 1, none⟩ (.int .i64 0)).setCell ⟨go, m * 5 + 2, none⟩ (.int .i64 0)).setCell ⟨go, m * 5 + 3, none⟩ (.int .i64 0)).setCell ⟨go, m * 5 + 4, none⟩ (.int .i64 7) = w4 at *
  simp only [List.set_cons_zero, List.set_cons_succ] at s5
  have s6 : Blk w4 go 25 ((L.flatMap cellsI ++ cellsI m7) ++ [r5, r6, r7, r8, r9]).toArray := by rw [List.append_assoc]; exact s5
  have hfl2 : (L.flatMap cellsI ++ cellsI m7).length = (m + 1) * 5 := by rw [List.length_append, HFL.out]; show m * 5 + 5 = _; omega
  obtain ⟨F2, hF2⟩ : ∃ F2, F2 = L.flatMap cellsI ++ cellsI m7 := ⟨_, rfl⟩
  rw [← hF2] at s6 hfl2
  have hget2 : ∀ j, (F2 ++ [r5, r6, r7, r8, r9]).toArray[(m + 1) * 5 + j]? = [r5, r6, r7, r8, r9][j]? := fun j => by
    rw [List.getElem?_toArray, List.getElem?_append_right (by rw [hfl2]; omega), hfl2]; congr 1; omega
  have hcx2 : ∀ W, New w4 W → W.cell? ⟨go, (m + 1) * 5, none⟩ = some r5 ∧ W.cell? ⟨go, (m + 1) * 5 + 1, none⟩ = some r6 ∧ W.cell? ⟨go, (m + 1) * 5 + 2, none⟩ = some r7 ∧ W.cell? ⟨go, (m + 1) * 5 + 3, none⟩ = some r8 ∧ W.cell? ⟨go, (m + 1) * 5 + 4, none⟩ = some r9 ∧ ∀ i, W.frozen? ⟨go, i, none⟩ = false := fun W hW =>
    have hb := s6.kept hW id
    ⟨(hb.cell _).trans (hget2 0), (hb.cell _).trans (hget2 1), (hb.cell _).trans (hget2 2), (hb.cell _).trans (hget2 3), (hb.cell _).trans (hget2 4), hb.free⟩
  have hi2 := HI.out w4 (-8) 8
  have HCX2 := Lib.hid hcx2
  have hn4 : New w w4 := (HN2.out.trans HW3.out).step hk5 fun j hj e => by have := HGO.out; omega
  have HI2 := Lib.hid hi2
  have S6 := Lib.hid s6
  have HN4 := Lib.hid hn4
  have HFL2 := Lib.hid hfl2
  have HF2 := Lib.hid hF2
  clear hi2 s6 hn4 hfl2 hF2
  clear s5
  clear hcx2 hget2 hk5 HCX
  go_wp2_with fail
  refine HI2.out.mono ?_
  rintro e w5 ⟨rfl, hw5⟩
  obtain ⟨x0, x1, x2, x3, x4, f0⟩ := HCX2.out w5 hw5
  have HW5 := Lib.hid hw5
  clear hw5
  go_upto_region 6 with (fail)
  have hb5 := S6.out.kept HW5.out id
  have s1 := blk_tail0 hb5 HFL2.out (.int .i64 (-8))
  have s2 := blk_tail (j := 1) s1 HFL2.out (.int .i64 0)
  have s3 := blk_tail (j := 2) s2 HFL2.out (.int .i64 0)
  have s4 := blk_tail (j := 3) s3 HFL2.out (.int .i64 0)
  have s5 := blk_tail (j := 4) s4 HFL2.out (.int .i64 8)
  have hk5 : Kept (fun j => j = go) w5 (((((w5.setCell ⟨go, (m + 1) * 5, none⟩ (.int .i64 (-8))).setCell ⟨go, (m + 1) * 5 + 1, none⟩ (.int .i64 0)).setCell ⟨go, (m + 1) * 5 + 2, none⟩ (.int .i64 0)).setCell ⟨go, (m + 1) * 5 + 3, none⟩ (.int .i64 0)).setCell ⟨go, (m + 1) * 5 + 4, none⟩ (.int .i64 8)) :=
    ((((Kept.set1 w5 go _ _).trans (Kept.set1 _ go _ _)).trans (Kept.set1 _ go _ _)).trans (Kept.set1 _ go _ _)).trans (Kept.set1 _ go _ _)
  clear s1 s2 s3 s4 hb5 x0 x1 x2 x3 x4 f0
  generalize ((((w5.setCell ⟨go, (m + 1) * 5, none⟩ (.int .i64 (-8))).setCell ⟨go, (m + 1) * 5 + 1, none⟩ (.int .i64 0)).setCell ⟨go, (m + 1) * 5 + 2, none⟩ (.int .i64 0)).setCell ⟨go, (m + 1) * 5 + 3, none⟩ (.int .i64 0)).setCell ⟨go, (m + 1) * 5 + 4, none⟩ (.int .i64 8) = w6 at *
  simp only [List.set_cons_zero, List.set_cons_succ] at s5
  have s7 : Blk w6 go 25 ((L ++ [m7, m8]).flatMap cellsI).toArray := by
    rw [HF2.out] at s5
    rw [List.flatMap_append]
    rw [List.append_assoc] at s5
    exact s5
  have hn6 : New w w6 := (HN4.out.trans HW5.out).step hk5 fun j hj e => by have := HGO.out; omega
  have hrow : ∀ W, New w6 W → Row W 5 (some go) (some ⟨go, 0, none⟩) (m + 2) (m + 2) ((L ++ [m7, m8]).flatMap cellsI) := fun W hW => by
    have hlen : ((L ++ [m7, m8]).flatMap cellsI).length = (m + 2) * 5 := by rw [HLN.out, flatMap_len (size := 5) _ fun _ _ => rfl]; simp
    have := Row.of_blk (size := 5) (n := m + 2) (c := m + 2) (s7.kept hW id) 0 (Nat.le_refl _) (by unfold maxLen; omega) (by rw [List.size_toArray, hlen]; omega) (by omega)
    rw [List.drop_zero, List.take_of_length_le (by rw [hlen]; exact Nat.le_refl _)] at this
    exact this
  have hwfL : ∀ x ∈ L ++ [m7, m8], Wf x := fun x hx => by
    rcases List.mem_append.1 hx with hx | hx
    · exact ins_wf HL1.out x hx
    · simp only [List.mem_cons, List.not_mem_nil, or_false] at hx
      rcases hx with rfl | rfl <;> exact ⟨by decide, by decide, by decide, by decide, by decide⟩
  have hown : ∀ W, New w6 W → SliceOf repIns W W.heap.size (some ⟨go, 0, none⟩) m (m + 2) L := fun W hW => by
    have h1 := (hrow W hW).slice (R := repIns) (by decide) (by rw [HLN.out]; simp) fun x hx => ⟨rfl, hwfL x hx⟩
    have h2 := h1.take (k := m) (c' := m + 2) (by omega) (by omega) (by unfold maxLen; omega)
    rw [HLN.out, List.take_append_of_le_length (Nat.le_refl _), List.take_length, ← HLN.out] at h2
    exact h2
  have hmk : ∀ W, New w6 W → W.cell? ⟨go, m * 5, none⟩ = some (.int .i64 (-7)) ∧ W.cell? ⟨go, m * 5 + 1, none⟩ = some (.int .i64 0) ∧ W.cell? ⟨go, m * 5 + 2, none⟩ = some (.int .i64 0) ∧ W.cell? ⟨go, m * 5 + 3, none⟩ = some (.int .i64 0) ∧ W.cell? ⟨go, m * 5 + 4, none⟩ = some (.int .i64 7) ∧
      W.cell? ⟨go, (m + 1) * 5, none⟩ = some (.int .i64 (-8)) ∧ W.cell? ⟨go, (m + 1) * 5 + 1, none⟩ = some (.int .i64 0) ∧ W.cell? ⟨go, (m + 1) * 5 + 2, none⟩ = some (.int .i64 0) ∧ W.cell? ⟨go, (m + 1) * 5 + 3, none⟩ = some (.int .i64 0) ∧ W.cell? ⟨go, (m + 1) * 5 + 4, none⟩ = some (.int .i64 8) := fun W hW => by
    have hb := s7.kept hW id
    have g : ∀ i (hi : i < (L ++ [m7, m8]).length) j, j < 5 → W.cell? ⟨go, i * 5 + j, none⟩ = (cellsI (L ++ [m7, m8])[i])[j]? := fun i hi j hj => by
      rw [hb.cell, List.getElem?_toArray]
      exact flatMap_get (f := cellsI) (size := 5) _ (fun _ _ => rfl) i hi j hj
    have e1 : (L ++ [m7, m8])[m]'(by rw [HLN.out]; simp) = m7 := by simp [HLN.out]
    have e2 : (L ++ [m7, m8])[m + 1]'(by rw [HLN.out]; simp) = m8 := by simp [HLN.out]
    have g1 := g m (by rw [HLN.out]; simp)
    have g2 := g (m + 1) (by rw [HLN.out]; simp)
    rw [e1] at g1
    rw [e2] at g2
    exact ⟨g1 0 (by decide), g1 1 (by decide), g1 2 (by decide), g1 3 (by decide), g1 4 (by decide), g2 0 (by decide), g2 1 (by decide), g2 2 (by decide), g2 3 (by decide), g2 4 (by decide)⟩
  have hread : ∀ W, New w6 W → SliceOf repIns W W.heap.size A m c L := fun W hW =>
    (HL2.out.kept (hn6.trans hW) (Nat.le_refl _) fun _ _ h => h).more (hn6.trans hW).size
  have HROW := Lib.hid hrow
  have HWFL := Lib.hid hwfL
  have HOWN := Lib.hid hown
  have HMK := Lib.hid hmk
  have HREAD := Lib.hid hread
  have HN6 := Lib.hid hn6
  have S7 := Lib.hid s7
  clear hrow hwfL hown hmk hread hn6 s7
  clear s5 hk5 HCX2
  have HCH := Lib.hid (fun W (hW : New w6 W) => check_any (locks := locks) (hold := hold) (HOWN.out W hW) hwf)
  have HRC := Lib.hid (fun W (hW : New w6 W) => rcheck_any (locks := locks) (hold := hold) (HREAD.out W hW))
  have HLO := Lib.hid (fun W (hW : New w6 W) => long_any (locks := locks) (HOWN.out W hW))
  have HRL := Lib.hid (fun W (hW : New w6 W) => rlong_any (locks := locks) (HREAD.out W hW))
  have HFX := Lib.hid (fun W => fixed_any W)
  clear hwf
  go_wp2_with fail
  go_loopw [8] (fun s wr => ∃ k : Nat, k ≤ 2 ∧ s = .int .i64 k ∧ New w6 wr) (fun s _ => (2 - intOf s).toNat)
  case atStart => exact ⟨0, by omega, rfl, Kept.refl _ _⟩
  case round =>
    obtain ⟨k, hk, rfl, hnr⟩ := hrel
    by_cases hlt : k < 2
    · have hltd : (k : Int) < 2 := by omega
      have hch := HCH.out wr hnr
      have HNR := Lib.hid hnr
      have HCH1 := Lib.hid hch
      clear hnr hch
      go_wp2_with fail
      refine HCH1.out.mono ?_
      rintro e w7 ⟨hw7, er, at_, rfl, hr1⟩
      have hn7 := HNR.out.trans hw7
      have hrc := HRC.out w7 hn7
      clear hw7
      have HN7 := Lib.hid hn7
      have HR1 := Lib.hid hr1
      have HRC1 := Lib.hid hrc
      clear hn7 hr1 hrc
      clear HCH1 HNR
      go_wp2_with fail
      refine HRC1.out.mono ?_
      rintro e w8 ⟨hw8, er2, at2, rfl, hr2⟩
      obtain ⟨rfl, rfl⟩ := HR1.out.det hr2
      have hn8 := HN7.out.trans hw8
      have hlo := HLO.out w8 hn8
      clear hw8 hr2
      have HN8 := Lib.hid hn8
      have HLO1 := Lib.hid hlo
      clear hn8 hlo
      clear HRC1 HN7 HR1
      go_wp2_with fail
      refine HLO1.out.mono ?_
      rintro e w9 ⟨hw9, lm, er3, at3, rfl, hr3⟩
      have hn9 := HN8.out.trans hw9
      have hrl := HRL.out w9 hn9
      clear hw9
      have HN9 := Lib.hid hn9
      have HR3 := Lib.hid hr3
      have HRL1 := Lib.hid hrl
      clear hn9 hr3 hrl
      clear HLO1 HN8
      go_wp2_with fail
      refine HRL1.out.mono ?_
      rintro e w10 ⟨hw10, lm2, er4, at4, rfl, hr4⟩
      obtain ⟨rfl, rfl, rfl⟩ := HR3.out.det hr4
      have hn10 := HN9.out.trans hw10
      clear hw10 hr4 HRL1 HN9 HR3
      have hall : ∀ W, New w10 W → New w10 W ∧ W.cell? ⟨go, m * 5, none⟩ = some (.int .i64 (-7)) ∧ W.cell? ⟨go, m * 5 + 1, none⟩ = some (.int .i64 0) ∧ W.cell? ⟨go, m * 5 + 2, none⟩ = some (.int .i64 0) ∧ W.cell? ⟨go, m * 5 + 3, none⟩ = some (.int .i64 0) ∧ W.cell? ⟨go, m * 5 + 4, none⟩ = some (.int .i64 7) ∧
        W.cell? ⟨go, (m + 1) * 5, none⟩ = some (.int .i64 (-8)) ∧ W.cell? ⟨go, (m + 1) * 5 + 1, none⟩ = some (.int .i64 0) ∧ W.cell? ⟨go, (m + 1) * 5 + 2, none⟩ = some (.int .i64 0) ∧ W.cell? ⟨go, (m + 1) * 5 + 3, none⟩ = some (.int .i64 0) ∧ W.cell? ⟨go, (m + 1) * 5 + 4, none⟩ = some (.int .i64 8) := fun W hW => ⟨hW, HMK.out W (hn10.trans hW)⟩
      obtain ⟨-, c0, c1, c2, c3, c4, d0, d1, d2, d3, d4⟩ := hall w10 (Kept.refl _ _)
      have HSA : Hid (∀ W, New w10 W → Calls Try.prog 13 #[.slice (some ⟨go, 0, none⟩) m (m + 2), .slice A m c] W fun e w' => e = .returned (.bool true) ∧ New w10 w') :=
        Lib.hid fun W hW => (same_true _ _ _ _ _ _ _ _ L W (HOWN.out W (hn10.trans hW)) (HREAD.out W (hn10.trans hW))).mono fun e w' ⟨h1, h2⟩ => ⟨h1, hW.trans h2⟩
      have HI3 : Hid (∀ W op x, New w10 W → Calls Try.prog 8 #[.int .i64 op, .int .i64 x] W fun e w' => e = .returned (.agg #[.int .i64 op, .int .i64 0, .int .i64 0, .int .i64 0, .int .i64 x]) ∧ New w10 w') :=
        Lib.hid fun W op x hW => (HI.out W op x).mono fun e w' ⟨h1, h2⟩ => ⟨h1, hW.trans h2⟩
      have HALL := Lib.hid hall
      have HN10 := Lib.hid hn10
      clear hall hn10
      have ib7 : m < m + 2 := by omega
      have ib8 : m + 1 < m + 2 := by omega
      have id0 : (0 : Int) ≤ (m : Int) := by omega
      have id1 : (m : Int) ≤ (m : Int) + 2 := by omega
      have id2 : (m : Int) < (m : Int) + 2 := by omega
      have id3 : m ≤ m + 2 := by omega
      have id4 : (m : Int) ≤ ((m + 2 : Nat) : Int) := by omega
      have id5 : (m : Int) < ((m + 2 : Nat) : Int) := by omega
      have ic0 : (0 : Int) ≤ (m : Int) + 1 := by omega
      have ic1 : (m : Int) + 1 < (m : Int) + 2 := by omega
      have ic2 : (m : Int) + 1 < ((m + 2 : Nat) : Int) := by omega
      have ic3 : IntKind.i64.wrap ((m : Int) + 1) = (m : Int) + 1 := by rw [IntKind.wrap_i64]; omega
      go_upto_region 13 with (fail)
      go_region_held3 (fun W => New w10 W ∧ W.cell? ⟨go, m * 5, none⟩ = some (.int .i64 (-7)) ∧ W.cell? ⟨go, m * 5 + 1, none⟩ = some (.int .i64 0) ∧ W.cell? ⟨go, m * 5 + 2, none⟩ = some (.int .i64 0) ∧ W.cell? ⟨go, m * 5 + 3, none⟩ = some (.int .i64 0) ∧ W.cell? ⟨go, m * 5 + 4, none⟩ = some (.int .i64 7) ∧
        W.cell? ⟨go, (m + 1) * 5, none⟩ = some (.int .i64 (-8)) ∧ W.cell? ⟨go, (m + 1) * 5 + 1, none⟩ = some (.int .i64 0) ∧ W.cell? ⟨go, (m + 1) * 5 + 2, none⟩ = some (.int .i64 0) ∧ W.cell? ⟨go, (m + 1) * 5 + 3, none⟩ = some (.int .i64 0) ∧ W.cell? ⟨go, (m + 1) * 5 + 4, none⟩ = some (.int .i64 8)) (first | exact HALL.out _ (by assumption) | exact HALL.out _ (Kept.refl _ _).drew) (first
        | (go_at_call 13; refine (HSA.out _ (by first | assumption | exact (Kept.refl _ _).drew)).mono ?_; rintro e v1 ⟨rfl, hv1⟩)
        | (go_at_call 8; have hno := HV2.out; refine (HI3.out _ (-8) 8 (by assumption)).mono ?_; rintro e v3 ⟨rfl, hv3⟩)
        | (go_at_call 8; refine (HI3.out _ (-7) 7 (by assumption)).mono ?_; rintro e v2 ⟨rfl, hv2⟩; have HV2 := Lib.hid hv2))
      all_goals
        go_wp2_with fail
        go_roundw
        case rel => exact ⟨k + 1, by omega, by go_num, HN10.out.trans hv3⟩
        case measure => simp [intOf]; omega
    · obtain rfl : k = 2 := by omega
      have hfx := HFX.out wr
      have HNR := Lib.hid hnr
      have HFX1 := Lib.hid hfx
      clear hnr hfx
      go_wp2_with fail
      refine HFX1.out.mono ?_
      rintro e w7 ⟨rfl, hw7⟩
      have HW7 := Lib.hid hw7
      clear hw7
      go_wp2_with fail
      go_ret
      exact ⟨rfl, (HN6.out.trans HNR.out).trans HW7.out⟩
end Go.Proofs.Ytjhiaicpgajeoaa.Valid
