/- The walks of chapter 16's small helpers: Same, awake. -/
import Derived.Test.YtgmibjhbneggeaaScriptD
import Derived.Test.YtgmibjhbneggeaaScriptE
namespace Go.Proofs.Ytgmibjhbneggeaa.Script
open Go.RowKit Go.Fb Go.BytesP Go.ScriptP
set_option linter.unusedVariables false

theorem same_true (A A' : Option Addr) (n n' c c' B B' : Nat) (l : List Step) (w : World) (ha : SliceOf repStep w B A n c l) (hb : SliceOf repStep w B' A' n' c' l) :
    Calls Try.prog 15 #[.slice A n c, .slice A' n' c'] w fun e w' => e = .returned (.bool true) ∧ ∃ q, w' = w.drewN q := by
  obtain rfl : n' = n := by rw [hb.len, ha.len]
  have hbd := ha.bound
  have hbd' := hb.bound
  have HA := Lib.hid ha
  have HB := Lib.hid hb
  have HN := Lib.hid ha.len
  clear ha hb
  go_enter Try.func15, Try.ntmps15
  go_wp2_with fail
  go_loopw [5] (fun i wr => ∃ k : Nat, k ≤ n' ∧ i = .int .i64 k ∧ ∃ q, wr = w.drewN q) (fun i _ => (n' - intOf i).toNat)
  case atStart => exact ⟨0, by omega, rfl, 0, rfl⟩
  case round =>
    obtain ⟨k, hk, rfl, q, rfl⟩ := hrel
    by_cases hlt : k < n'
    · have hkl : k < l.length := by have := HN.out; omega
      obtain ⟨b, o, rfl, _, h1⟩ := steps_at HA.out (by omega)
      obtain ⟨b', o', rfl, _, h2⟩ := steps_at HB.out (by omega)
      obtain ⟨c0, c1, c2⟩ := h1 k hkl
      obtain ⟨d0, d1, d2⟩ := h2 k hkl
      have hlt' : (k : Int) < (n' : Int) := by omega
      clear h1 h2
      generalize l[k] = s at *
      go_wp2_with fail
      go_quiet (fail)
      go_wp2_with fail
      exact ⟨⟨k + 1, by omega, by go_num, _, rfl⟩, by simp [intOf]; omega⟩
    · obtain rfl : k = n' := by omega
      go_wp2_with fail
      go_ret
      exact ⟨rfl, _, rfl⟩
theorem flat_get (l : List Step) (i : Nat) (hi : i < l.length) : ∀ j, j < 3 → (l.flatMap cellsS)[i * 3 + j]? = (cellsS l[i])[j]? := by
  induction l generalizing i with
  | nil => simp at hi
  | cons s l ih =>
    intro j hj
    rw [List.flatMap_cons]
    cases i with
    | zero => rw [Nat.zero_mul, Nat.zero_add, List.getElem?_append_left (by simpa [cellsS] using hj)]; rfl
    | succ i =>
      rw [List.getElem?_append_right (by simp [cellsS]; omega), show (i + 1) * 3 + j - (cellsS s).length = i * 3 + j by simp [cellsS]; omega]
      exact ih i (by simpa using hi) j hj
/-- A step whose numbers fit. -/
def Wf (s : Step) : Prop := (Lit.int .i64 s.k).wf = true ∧ (Lit.int .i64 s.n).wf = true ∧ (Lit.int .i64 s.v).wf = true
theorem repStep_of {w : World} {B : Nat} {s : Step} (h : Wf s) : repStep.cells w B s (cellsS s) :=
  ⟨[_], [_, _], rfl, ⟨rfl, h.1⟩, [_], [_], rfl, ⟨rfl, h.2.1⟩, [_], [], rfl, ⟨rfl, h.2.2⟩, rfl⟩
/-- A fresh literal of steps. -/
theorem steps_made {w : World} {T : TypeId} (l : List Step) (hl : l.length ≤ 1073741824) (hw : ∀ s ∈ l, Wf s) : SliceOf repStep (w.alloc (.cells (l.flatMap cellsS).toArray T)) (w.alloc (.cells (l.flatMap cellsS).toArray T)).heap.size (some ⟨w.heap.size, 0, none⟩) l.length l.length l := by
  refine ⟨rfl, Nat.le_refl _, by unfold maxLen; omega, .inr ⟨w.heap.size, 0, rfl, by simp, fun i hi => ⟨cellsS l[i], fun j hj => ?_, repStep_of (hw _ (List.getElem_mem hi))⟩⟩⟩
  have hj3 : j < 3 := hj
  have e : 0 + i * repStep.size + j = i * 3 + j := by show 0 + i * 3 + j = _; omega
  rw [e, (Blk.made w T _).cell, List.getElem?_toArray]
  exact flat_get l i hi j hj3
/-- Steps of the call's own, read. -/
theorem OwnS.read {w : World} {B : Nat} {v : Value} {l : List Step} (h : OwnS w B v l) (hw : ∀ s ∈ l, Wf s) : ∃ A n c, v = .slice A n c ∧ SliceOf repStep w w.heap.size A n c l := by
  obtain ⟨h1, h2⟩ := h
  rcases h2 with ⟨rfl, h2⟩ | ⟨g, cap, cur, rfl, hb, hh, r1, r2, r3, r4⟩
  · have : l = [] := List.eq_nil_of_length_eq_zero h2
    subst this
    exact ⟨_, _, _, rfl, SliceOf.nil _ _ _⟩
  · refine ⟨_, _, _, rfl, rfl, by omega, r2, ?_⟩
    by_cases h0 : l.length = 0
    · exact .inl h0
    · refine .inr ⟨g, 0, rfl, (Array.getElem?_eq_some_iff.1 hh).1, fun i hi => ⟨cellsS l[i], fun j hj => ?_, repStep_of (hw _ (List.getElem_mem hi))⟩⟩
      have hj3 : j < 3 := hj
      have e : 0 + i * repStep.size + j = i * 3 + j := by show 0 + i * 3 + j = _; omega
      rw [e, (show Blk w g _ cur from hh).cell, ← flat_get l i hi j hj3, ← r4, List.getElem?_take, if_pos (by omega)]
      simp

def L1 : List Step := [⟨1, 258, 0⟩, ⟨2, 1, -2⟩]
def L2 : List Step := [⟨1, 3, 0⟩, ⟨3, 0, 1⟩]
theorem L1_wf : ∀ s ∈ L1, Wf s := by
  intro s hs
  simp only [L1, List.mem_cons, List.not_mem_nil, or_false] at hs
  rcases hs with rfl | rfl <;> exact ⟨rfl, rfl, rfl⟩
theorem L2_wf : ∀ s ∈ L2, Wf s := by
  intro s hs
  simp only [L2, List.mem_cons, List.not_mem_nil, or_false] at hs
  rcases hs with rfl | rfl <;> exact ⟨rfl, rfl, rfl⟩
theorem L1_may : may L1 = (0, 0) := rfl
theorem L2_may : may L2 = (11, 1) := rfl
theorem L1_len : (enc L1).length = 25 := rfl
theorem bad_dec : dec [70, 66, 83, 67, 2] = .error (4, 4) := rfl
set_option maxRecDepth 100000 in
set_option maxHeartbeats 1000000 in
theorem awake_any (w : World) : Calls Try.prog 8 #[] w fun e w' => e = .returned (.bool true) ∧ New w w' := by
  have kc := fun (w : World) (C : Array Value) (n c : Nat) => Lib.run_convert_bytes_const (P := Try.prog) w 27 5 C n c Try.underlying27 Try.underlying5
  go_enter Try.func8, Try.ntmps8
  go_wp2_with fail
  have hl1 : SliceOf repStep (w.alloc (.cells (L1.flatMap cellsS).toArray 38)) (w.alloc (.cells (L1.flatMap cellsS).toArray 38)).heap.size (some ⟨w.heap.size, 0, none⟩) 2 2 L1 := steps_made L1 (by decide) L1_wf
  refine (encode_ok _ 2 2 L1 _ hl1 L1_may).mono ?_
  rintro e w1 ⟨g, cap, rfl, ho, hw1⟩
  rw [L1_len] at ho ⊢
  have HL1 := Lib.hid (hl1.kept hw1 (Nat.le_refl _) fun _ _ h => h)
  have HO := Lib.hid ho
  have HS1 := Lib.hid hw1.size
  have HW1 := Lib.hid (show New w w1 from ((Kept.refl _ _).alloc _).trans hw1)
  clear hl1 ho hw1
  go_wp2_with fail
  refine (decode_any _ _ _ (enc L1) _ HO.out.read).mono ?_
  rintro e w2 hd
  rw [dec_enc L1_may (fun s hs => by have := L1_wf s hs; exact bounds_i64 this.2.2)] at hd
  obtain ⟨v, rfl, hv, hw2⟩ := hd
  obtain ⟨A3, n3, c3, rfl, hv3⟩ := hv.read L1_wf
  have HV := Lib.hid hv3
  have HL2 := Lib.hid (HL1.out.kept hw2 HS1.out fun _ _ h => h)
  have HO2 := Lib.hid (HO.out.kept hw2 fun _ _ h => h)
  have HW2 := Lib.hid (HW1.out.trans hw2)
  have HS2 := Lib.hid (Nat.le_trans HS1.out hw2.size)
  clear hv hv3 hw2
  go_wp2_with fail
  have hbad : SliceOf Rep.byte (w2.alloc (.cells (([70, 66, 83, 67, 2] : List UInt8).map bv).toArray 5 (5, 6))) (w2.alloc (.cells (([70, 66, 83, 67, 2] : List UInt8).map bv).toArray 5 (5, 6))).heap.size (some ⟨w2.heap.size, 0, none⟩) 5 5 [70, 66, 83, 67, 2] := SliceOf.made _ (by decide)
  refine (decode_any _ 5 5 [70, 66, 83, 67, 2] _ hbad).mono ?_
  rintro e w3 hd
  rw [bad_dec] at hd
  obtain ⟨rfl, hw3⟩ := hd
  have hk3 : New w2 w3 := ((Kept.refl _ _).alloc _).trans hw3
  have HV3 := Lib.hid (HV.out.kept hk3 (Nat.le_refl _) fun _ _ h => h)
  have HL3 := Lib.hid (HL2.out.kept hk3 HS2.out fun _ _ h => h)
  have HO3 := Lib.hid (HO2.out.kept hk3 fun _ _ h => h)
  have HW3 := Lib.hid (HW2.out.trans hk3)
  have HS3 := Lib.hid (Nat.le_trans HS2.out hk3.size)
  have HS4 := Lib.hid hk3.size
  clear hw3 hk3 hbad
  go_wp2_with fail
  have hl2 : SliceOf repStep (w3.alloc (.cells (L2.flatMap cellsS).toArray 38)) (w3.alloc (.cells (L2.flatMap cellsS).toArray 38)).heap.size (some ⟨w3.heap.size, 0, none⟩) 2 2 L2 := steps_made L2 (by decide) L2_wf
  refine (may_walk _ 2 2 L2 _ hl2).mono ?_
  rintro e w4 ⟨rfl, hw4⟩
  rw [L2_may]
  have hk4 : New w3 w4 := ((Kept.refl _ _).alloc _).trans hw4
  have HV4 := Lib.hid (HV3.out.kept hk4 HS4.out fun _ _ h => h)
  have HL4 := Lib.hid (HL3.out.kept hk4 HS3.out fun _ _ h => h)
  have HO4 := Lib.hid (HO3.out.kept hk4 fun _ _ h => h)
  have HW4 := Lib.hid (HW3.out.trans hk4)
  clear hw4 hk4 hl2
  obtain ⟨b, o, eb, _, hc⟩ := HO4.out.read.bytes (by decide)
  have b8 := hc 8 (by decide)
  have b9 := hc 9 (by decide)
  injection eb with eb
  injection eb with e1 e2
  subst e1 e2
  clear hc
  go_wp2_with (go_at_call 15; refine (same_true _ _ _ _ _ _ _ _ L1 _ HV4.out HL4.out).mono ?_; rintro e w5 ⟨rfl, q, rfl⟩)
  go_ret
  exact ⟨rfl, HW4.out.drewN _⟩
end Go.Proofs.Ytgmibjhbneggeaa.Script
