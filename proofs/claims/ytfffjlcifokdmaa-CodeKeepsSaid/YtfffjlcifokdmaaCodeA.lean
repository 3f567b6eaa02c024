/- The walks of chapter 6's small helpers: Same, short, awake. -/
import Derived.Test.YtfffjlcifokdmaaCodeK
import Derived.Laws.IdiomStrings
import Derived.Lib.BufferRead
namespace Go.Proofs.Ytfffjlcifokdmaa.Code
open Go.RowKit Go.Fb Go.BytesP Go.CodeP Go.ReaderP
set_option linter.unusedVariables false

theorem rowB_len {w : World} {r : Option Nat} {A : Option Addr} {n c : Nat} {l : List UInt8} (h : RowB w r A n c l) : n = l.length := by have := h.length; rw [List.length_map] at this; omega
theorem rowB_read {w : World} {r : Option Nat} {A : Option Addr} {n c : Nat} {l : List UInt8} (h : RowB w r A n c l) : SliceOf Rep.byte w w.heap.size A n c l := by
  have e : l.map bv = l.flatMap fun c => [bv c] := by clear h; induction l <;> simp_all [List.flatMap_cons]
  unfold RowB at h
  rw [e] at h
  refine h.slice (R := Rep.byte) (by decide) ?_ (fun x _ => rfl)
  have := h.length
  rw [← e, List.length_map] at this
  omega
theorem rowI_read {w : World} {r : Option Nat} {A : Option Addr} {c : Nat} {l : List Ins} (h : Row w 5 r A l.length c (l.flatMap cellsI)) (hw : ∀ x ∈ l, Wf x) : SliceOf repIns w w.heap.size A l.length c l := h.slice (R := repIns) (by decide) rfl fun x hx => ⟨rfl, hw x hx⟩
theorem same_true (A A' : Option Addr) (n n' c c' B B' : Nat) (l : List Ins) (w : World) (ha : SliceOf repIns w B A n c l) (hb : SliceOf repIns w B' A' n' c' l) :
    Calls Try.prog 22 #[.slice A n c, .slice A' n' c'] w fun e w' => e = .returned (.bool true) ∧ New w w' := by
  obtain rfl : n' = n := by rw [hb.len, ha.len]
  have hbd := ha.bound
  have hbd' := hb.bound
  have HN := Lib.hid ha.len
  have HA := Lib.hid ha
  have HB := Lib.hid hb
  clear ha hb
  go_enter Try.func22, Try.ntmps22
  go_wp2_with fail
  go_loopw [5] (fun i wr => ∃ k : Nat, k ≤ n' ∧ i = .int .i64 k ∧ ∃ q, wr = w.drewN q) (fun i _ => (n' - intOf i).toNat)
  case atStart => exact ⟨0, by omega, rfl, 0, rfl⟩
  case round =>
    obtain ⟨k, hk, rfl, q, rfl⟩ := hrel
    by_cases hlt : k < n'
    · have hkl : k < l.length := by have := HN.out; omega
      obtain ⟨b, o, rfl, _, h1⟩ := ins_at HA.out (by omega)
      obtain ⟨b', o', rfl, _, h2⟩ := ins_at HB.out (by omega)
      obtain ⟨c0, c1, c2, c3, c4⟩ := h1 k hkl
      obtain ⟨d0, d1, d2, d3, d4⟩ := h2 k hkl
      have hlt' : (k : Int) < (n' : Int) := by omega
      clear h1 h2
      generalize l[k] = s at *
      go_wp2_with fail
      go_quiet (fail)
      go_wp2_with fail
      exact ⟨⟨k + 1, by omega, by go_num, _, rfl⟩, by simp [intOf]; omega⟩
    · obtain rfl : k = n' := by omega
      go_wp2_with fail
      go_ret
      exact ⟨rfl, (Kept.refl _ _).drewN _⟩
/-- Bytes, as a string. -/
theorem str_of {P : Program} {w : World} {B : Nat} {A : Option Addr} {n c : Nat} {l : List UInt8} (h : SliceOf Rep.byte w B A n c l) (src dst e : TypeId) (hs : P.underlying src = some (.slice e)) (he : P.underlying e = some (.int .u8)) (hd : P.underlying dst = some .string) :
    (convert src dst (.slice A n c)).run P w = .ok (.string ⟨l.toArray⟩) w := by
  have hn := h.len
  by_cases h0 : 0 < n
  · obtain ⟨b, o, rfl, _, hc⟩ := h.bytes h0
    subst hn
    exact run_convert_bytes_back w src dst e _ c l hs he hd fun j hj => by rw [add_eq]; exact hc j hj
  · obtain rfl : l = [] := List.eq_nil_of_length_eq_zero (by omega)
    obtain rfl : n = 0 := by omega
    cases A with
    | none => exact Lib.run_convert_nil_bytes w src dst e c hs he hd
    | some a => exact run_convert_bytes_back w src dst e a c [] hs he hd fun j hj => absurd hj (by simp)
def L1 : List Ins := [⟨1, 1, 0, 0, 258⟩, ⟨22, 0, 0, 0, 0⟩]
def bad : List UInt8 := [1, 8, 0, 0, 0, 0, 0, 0, 0, 0, 0, 0]
theorem L1_wf : ∀ x ∈ L1, Wf x := by
  intro s hs
  simp only [L1, List.mem_cons, List.not_mem_nil, or_false] at hs
  rcases hs with rfl | rfl <;> exact ⟨rfl, rfl, rfl, rfl, rfl⟩
theorem L1_may : may L1 8 = (0, 0) := by decide +kernel
theorem L1_enc : encB L1 = [1, 1, 0, 0, 2, 1, 0, 0, 0, 0, 0, 0, 22, 0, 0, 0, 0, 0, 0, 0, 0, 0, 0, 0] := by decide +kernel
theorem L1_dec : decL (encB L1) = L1 ∧ decE (encB L1) = (0, 0) := by
  have e : encB L1 = encode L1 := by unfold encB; rw [if_pos L1_may]
  have := dec_encode L1_may (ins_inV L1_wf)
  rw [e]
  unfold decL decE
  rw [this]
  exact ⟨rfl, rfl⟩
theorem bad_dec : decL bad = [] ∧ decE bad = (10, 1) := by
  have : dec bad = .error (10, 1) := by rfl
  unfold decL decE
  rw [this]
  exact ⟨rfl, rfl⟩
set_option maxRecDepth 100000 in
set_option maxHeartbeats 1000000 in
theorem awake_any (w : World) : Calls Try.prog 10 #[] w fun e w' => e = .returned (.bool true) ∧ New w w' := by
  go_enter Try.func10, Try.ntmps10
  go_wp2_with fail
  have hl1 : SliceOf repIns (w.alloc (.cells (L1.flatMap cellsI).toArray 25)) (w.alloc (.cells (L1.flatMap cellsI).toArray 25)).heap.size (some ⟨w.heap.size, 0, none⟩) 2 2 L1 :=
    rowI_read (Row.of_made w (L1.flatMap cellsI) rfl (by decide) (by decide)) L1_wf
  have hb1 : Blk (w.alloc (.cells (L1.flatMap cellsI).toArray 25)) w.heap.size 25 (L1.flatMap cellsI).toArray := Blk.made _ _ _
  refine (encode_any _ 2 2 L1 _ hl1).mono ?_
  rintro e w1 ⟨r, A, n, cap, rfl, hr, _, hw1⟩
  rw [L1_may]
  obtain rfl : n = 24 := by have := rowB_len hr; rw [L1_enc] at this; exact this
  have hl2 := news hl1 hw1
  have hb2 := hb1.kept hw1 id
  have hnw1 : New w w1 := ((Kept.refl _ _).alloc _).trans hw1
  have hr1 := rowB_read hr
  have HR := Lib.hid hr
  have HR1 := Lib.hid hr1
  have HL2 := Lib.hid hl2
  have HB2 := Lib.hid hb2
  have HNW1 := Lib.hid hnw1
  clear hr hr1 hl2 hb2 hnw1
  clear hw1 hl1 hb1
  go_wp2_with fail
  refine (decode_any _ _ _ (encB L1) _ HR1.out).mono ?_
  rintro e w2 ⟨r2, A2, c2, rfl, hr2, _, hwf2, hw2⟩
  rw [L1_dec.1, L1_dec.2] at *
  have hm2 := rowI_read hr2 hwf2
  have hl3 := news HL2.out hw2
  have hb3 := HB2.out.kept hw2 id
  have hrb2 := HR.out.new (by decide) hw2
  have hnw2 := HNW1.out.trans hw2
  have HM2 := Lib.hid hm2
  have HL3 := Lib.hid hl3
  have HB3 := Lib.hid hb3
  have HRB2 := Lib.hid hrb2
  have HNW2 := Lib.hid hnw2
  clear hm2 hl3 hb3 hrb2 hnw2
  clear hw2 hr2
  go_wp2_with fail
  have hbad : SliceOf Rep.byte (w2.alloc (.cells (bad.map bv).toArray 5)) (w2.alloc (.cells (bad.map bv).toArray 5)).heap.size (some ⟨w2.heap.size, 0, none⟩) 12 12 bad := SliceOf.made bad (by decide)
  refine (decode_any _ 12 12 bad _ hbad).mono ?_
  rintro e w3 ⟨r3, A3, c3, rfl, hr3, _, _, hw3⟩
  rw [bad_dec.1, bad_dec.2] at *
  have hk3 : New w2 w3 := ((Kept.refl _ _).alloc _).trans hw3
  have hm3 := news HM2.out hk3
  have hl4 := news HL3.out hk3
  have hb4 := HB3.out.kept hk3 id
  have hrb3 := HRB2.out.new (by decide) hk3
  have hnw3 := HNW2.out.trans hk3
  have HM3 := Lib.hid hm3
  have HL4 := Lib.hid hl4
  have HB4 := Lib.hid hb4
  have HRB3 := Lib.hid hrb3
  have HNW3 := Lib.hid hnw3
  clear hm3 hl4 hb4 hrb3 hnw3
  clear hw3 hr3 hk3 hbad
  go_wp2_with fail
  refine (fields_any _ _).mono ?_
  rintro e w4 ⟨rfl, hw4⟩
  have hm4 := news HM3.out hw4
  have hl5 := news HL4.out hw4
  have hb5 := HB4.out.kept hw4 id
  have hrb4 := HRB3.out.new (by decide) hw4
  have hnw4 := HNW3.out.trans hw4
  obtain ⟨g, o, eA, _, hc⟩ := (rowB_read hrb4).bytes (by decide)
  subst eA
  have e4 : w4.cell? ⟨g, o + 4, none⟩ = some (.int .u8 2) := hc 4 (by decide)
  have e5 : w4.cell? ⟨g, o + 5, none⟩ = some (.int .u8 1) := hc 5 (by decide)
  have e12 : w4.cell? ⟨g, o + 12, none⟩ = some (.int .u8 22) := hc 12 (by decide)
  have hb24 := hrb4.bound
  have fa : hasA 23 = true := rfl
  have fi : hasI 23 = true := rfl
  have HM4 := Lib.hid hm4
  have HL5 := Lib.hid hl5
  have HB5 := Lib.hid hb5
  have HRB4 := Lib.hid hrb4
  have HNW4 := Lib.hid hnw4
  clear hm4 hl5 hb5 hrb4 hnw4
  clear hw4 hc
  go_wp2_with (go_at_call 22; refine (same_true _ _ _ _ _ _ _ _ L1 _ HM4.out HL5.out).mono ?_; rintro e w5 ⟨rfl, hw5⟩; have q := HB5.out.kept hw5 id; have q5 : w5.cell? ⟨w.heap.size, 5, none⟩ = some (.int .i64 22) := q.cell 5; have q6 : w5.cell? ⟨w.heap.size, 6, none⟩ = some (.int .i64 0) := q.cell 6; have q7 : w5.cell? ⟨w.heap.size, 7, none⟩ = some (.int .i64 0) := q.cell 7; have q8 : w5.cell? ⟨w.heap.size, 8, none⟩ = some (.int .i64 0) := q.cell 8; have q9 : w5.cell? ⟨w.heap.size, 9, none⟩ = some (.int .i64 0) := q.cell 9; have HW5 := Lib.hid hw5; clear q hw5)
  refine (check_any ⟨22, 0, 0, 0, 0⟩ 0 0 _).mono ?_
  rintro e w6 ⟨rfl, hw6⟩
  have hck : check ⟨22, 0, 0, 0, 0⟩ 0 0 = 0 := by decide +kernel
  rw [hck]
  have HW6 := Lib.hid hw6
  have HCK := Lib.hid hck
  clear hw6 hck
  go_wp2_with fail
  go_ret
  exact ⟨rfl, (HNW4.out.trans HW5.out).trans HW6.out⟩
end Go.Proofs.Ytfffjlcifokdmaa.Code
