/- The walk of package code's Fields (layer 6). -/
import Derived.Test.YtilioiebecpknaaCodeW
import Derived.Test.YtilioiebecpknaaShelfHas
namespace Go.Proofs.Ytilioiebecpknaa.Code
open Go.RowKit Go.Fb Go.BytesP Go.CodeP
set_option linter.unusedVariables false

/-- The letters of an instruction's fields. -/
def letters (k : Nat) : ByteArray := ([⟨#[]⟩, ⟨#[97, 105]⟩, ⟨#[97, 98]⟩, ⟨#[97, 98, 99]⟩, ⟨#[97, 98, 99]⟩, ⟨#[97, 98, 99]⟩, ⟨#[97, 98, 99]⟩, ⟨#[97, 98, 99]⟩, ⟨#[97, 98, 99]⟩, ⟨#[97, 98, 99]⟩, ⟨#[97, 98, 99]⟩, ⟨#[97, 98, 99]⟩, ⟨#[97, 98, 99]⟩, ⟨#[97, 98, 99]⟩, ⟨#[97, 98, 99]⟩, ⟨#[97, 98, 99]⟩, ⟨#[97, 98, 99]⟩, ⟨#[97, 98, 99]⟩, ⟨#[97, 98, 99]⟩, ⟨#[97, 98, 99]⟩, ⟨#[97, 98]⟩, ⟨#[97, 98]⟩, ⟨#[105]⟩, ⟨#[97, 105]⟩, ⟨#[97, 98, 99]⟩, ⟨#[97, 98]⟩, ⟨#[97, 98]⟩, ⟨#[97]⟩, ⟨#[97]⟩, ⟨#[105]⟩, ⟨#[105]⟩, ⟨#[97]⟩, ⟨#[97]⟩, ⟨#[97]⟩] : List ByteArray).getD k ⟨#[]⟩
def lettersI (op : Int) : ByteArray := if 0 ≤ op ∧ op < 34 then letters op.toNat else ⟨#[]⟩
theorem index_tbl (k : Nat) (hk : k < 34) (W : World) : (Instr.index 98 (.agg #[.string ⟨#[]⟩, .string ⟨#[97, 105]⟩, .string ⟨#[97, 98]⟩, .string ⟨#[97, 98, 99]⟩, .string ⟨#[97, 98, 99]⟩, .string ⟨#[97, 98, 99]⟩, .string ⟨#[97, 98, 99]⟩, .string ⟨#[97, 98, 99]⟩, .string ⟨#[97, 98, 99]⟩, .string ⟨#[97, 98, 99]⟩, .string ⟨#[97, 98, 99]⟩, .string ⟨#[97, 98, 99]⟩, .string ⟨#[97, 98, 99]⟩, .string ⟨#[97, 98, 99]⟩, .string ⟨#[97, 98, 99]⟩, .string ⟨#[97, 98, 99]⟩, .string ⟨#[97, 98, 99]⟩, .string ⟨#[97, 98, 99]⟩, .string ⟨#[97, 98, 99]⟩, .string ⟨#[97, 98, 99]⟩, .string ⟨#[97, 98]⟩, .string ⟨#[97, 98]⟩, .string ⟨#[105]⟩, .string ⟨#[97, 105]⟩, .string ⟨#[97, 98, 99]⟩, .string ⟨#[97, 98]⟩, .string ⟨#[97, 98]⟩, .string ⟨#[97]⟩, .string ⟨#[97]⟩, .string ⟨#[105]⟩, .string ⟨#[105]⟩, .string ⟨#[97]⟩, .string ⟨#[97]⟩, .string ⟨#[97]⟩]) (.int .i64 (k : Int))).run Try.prog W = .ok (.string (letters k)) W := by
  rcases (by omega : k = 0 ∨ k = 1 ∨ k = 2 ∨ k = 3 ∨ k = 4 ∨ k = 5 ∨ k = 6 ∨ k = 7 ∨ k = 8 ∨ k = 9 ∨ k = 10 ∨ k = 11 ∨ k = 12 ∨ k = 13 ∨ k = 14 ∨ k = 15 ∨ k = 16 ∨ k = 17 ∨ k = 18 ∨ k = 19 ∨ k = 20 ∨ k = 21 ∨ k = 22 ∨ k = 23 ∨ k = 24 ∨ k = 25 ∨ k = 26 ∨ k = 27 ∨ k = 28 ∨ k = 29 ∨ k = 30 ∨ k = 31 ∨ k = 32 ∨ k = 33) with rfl | rfl | rfl | rfl | rfl | rfl | rfl | rfl | rfl | rfl | rfl | rfl | rfl | rfl | rfl | rfl | rfl | rfl | rfl | rfl | rfl | rfl | rfl | rfl | rfl | rfl | rfl | rfl | rfl | rfl | rfl | rfl | rfl | rfl <;> kernel_rfl
theorem has_at (k : Nat) (hk : k < 34) : decide (0 ≤ Lib.indexByte (letters k).data.toList 97) = hasA k ∧ decide (0 ≤ Lib.indexByte (letters k).data.toList 98) = hasB k ∧ decide (0 ≤ Lib.indexByte (letters k).data.toList 99) = hasC k ∧ decide (0 ≤ Lib.indexByte (letters k).data.toList 105) = hasI k := by
  rcases (by omega : k = 0 ∨ k = 1 ∨ k = 2 ∨ k = 3 ∨ k = 4 ∨ k = 5 ∨ k = 6 ∨ k = 7 ∨ k = 8 ∨ k = 9 ∨ k = 10 ∨ k = 11 ∨ k = 12 ∨ k = 13 ∨ k = 14 ∨ k = 15 ∨ k = 16 ∨ k = 17 ∨ k = 18 ∨ k = 19 ∨ k = 20 ∨ k = 21 ∨ k = 22 ∨ k = 23 ∨ k = 24 ∨ k = 25 ∨ k = 26 ∨ k = 27 ∨ k = 28 ∨ k = 29 ∨ k = 30 ∨ k = 31 ∨ k = 32 ∨ k = 33) with rfl | rfl | rfl | rfl | rfl | rfl | rfl | rfl | rfl | rfl | rfl | rfl | rfl | rfl | rfl | rfl | rfl | rfl | rfl | rfl | rfl | rfl | rfl | rfl | rfl | rfl | rfl | rfl | rfl | rfl | rfl | rfl | rfl | rfl <;> decide +kernel
theorem has_I (op : Int) : decide (0 ≤ Lib.indexByte (lettersI op).data.toList 97) = hasA op ∧ decide (0 ≤ Lib.indexByte (lettersI op).data.toList 98) = hasB op ∧ decide (0 ≤ Lib.indexByte (lettersI op).data.toList 99) = hasC op ∧ decide (0 ≤ Lib.indexByte (lettersI op).data.toList 105) = hasI op := by
  by_cases h : 0 ≤ op ∧ op < 34
  · unfold lettersI
    rw [if_pos h]
    have := has_at op.toNat (by omega)
    rwa [show ((op.toNat : Nat) : Int) = op by omega] at this
  · unfold lettersI
    rw [if_neg h]
    refine ⟨?_, ?_, ?_, ?_⟩ <;> (refine Eq.trans (b := false) (by decide) (Eq.symm ?_)) <;> simp [hasA, hasB, hasC, hasI] <;> omega
theorem letters_any (op : Int) (w : World) : Calls Try.prog 55 #[.int .i64 op] w fun e w' => e = .returned (.string (lettersI op)) ∧ w = w' := by
  by_cases h : 0 ≤ op ∧ op < 34
  · obtain ⟨k, rfl⟩ : ∃ k : Nat, op = k := ⟨op.toNat, by omega⟩
    have E := Lib.hid (show lettersI k = letters k by unfold lettersI; rw [if_pos h, Int.toNat_natCast])
    have hk : k < 34 := by omega
    have hix := fun W => index_tbl k hk W
    clear h
    go_enter Try.func55, Try.ntmps55
    go_wp2
    go_ret
    rw [E.out]
    exact ⟨rfl, rfl⟩
  · have E := Lib.hid (show lettersI op = ⟨#[]⟩ by unfold lettersI; rw [if_neg h])
    have h2 : op < 0 ∨ 34 ≤ op := by omega
    clear h
    rcases h2 with h2 | h2
    all_goals
      go_enter Try.func55, Try.ntmps55
      go_wp2
      go_ret
      rw [E.out]
      exact ⟨rfl, rfl⟩
theorem ret_two {x : Int × Int} {a b : Int} (h : x = (a, b)) : Ending.returned (.tuple #[.int .i64 a, .int .i64 b]) = .returned (.tuple #[.int .i64 x.1, .int .i64 x.2]) := by rw [h]
theorem fields_any (op : Int) (w : World) : Calls Try.prog 37 #[.int .i64 op] w fun e w' => e = .returned (.tuple #[.bool (hasA op), .bool (hasB op), .bool (hasC op), .bool (hasI op)]) ∧ New w w' := by
  obtain ⟨h1, h2, h3, h4⟩ := has_I op
  go_enter Try.func37, Try.ntmps37
  go_wp2_with (first | (go_at_call 55; refine (letters_any _ _).mono ?_; rintro e w' ⟨rfl, rfl⟩) | (go_at_call 57; refine (Try.strings_Contains_one _ _ _).mono ?_; rintro e w' ⟨rfl, rfl⟩) | go_in)
  refine bodyPost_ret (v := .tuple #[.bool (hasA op), .bool (hasB op), .bool (hasC op), .bool (hasI op)]) (by simp [results, Try.results37, go_sem]) rfl ⟨rfl, (Kept.refl _ _).alloc _⟩
/-- What wrong tells, and where. -/
theorem wrong_any (x : Ins) (n locks : Int) (w : World) : Calls Try.prog 26 #[agg x, .int .i64 n, .int .i64 locks] w fun e w' => e = .returned (.tuple #[.int .i64 (wrong x n locks).1, .int .i64 (wrong x n locks).2]) ∧ New w w' := by
  by_cases h0 : x.op < 0
  · have E := Lib.hid (show wrong x n locks = (9, 0) by unfold wrong; rw [if_pos (by omega)])
    obtain ⟨op, a, b, c, imm⟩ := x
    unfold agg
    simp only at h0
    go_enter Try.func26, Try.ntmps26
    go_wp2
    go_ret2
    rw [E.out]
    exact ⟨rfl, (Kept.refl _ _).alloc _⟩
  by_cases h1 : 34 ≤ x.op
  · have E := Lib.hid (show wrong x n locks = (9, 0) by unfold wrong; rw [if_pos (by omega)])
    obtain ⟨op, a, b, c, imm⟩ := x
    unfold agg
    simp only at h0 h1
    go_enter Try.func26, Try.ntmps26
    go_wp2
    go_ret2
    rw [E.out]
    exact ⟨rfl, (Kept.refl _ _).alloc _⟩
  have hw : wrong x n locks = if reg (hasA x.op) x.a ≠ 0 then (reg (hasA x.op) x.a, 1) else if reg (hasB x.op) x.b ≠ 0 then (reg (hasB x.op) x.b, 2) else if reg (hasC x.op) x.c ≠ 0 then (reg (hasC x.op) x.c, 3) else (numberH (hasI x.op) x n locks, 4) := by
    unfold wrong; rw [if_neg (by omega)]; rfl
  have HW := Lib.hid hw
  clear hw
  obtain ⟨op, a, b, c, imm⟩ := x
  simp only at h0 h1 HW
  unfold agg
  go_enter Try.func26, Try.ntmps26
  go_wp2_with fail
  refine (fields_any _ _).mono ?_
  rintro e w1 ⟨rfl, hw1⟩
  have hb : Blk w1 w.heap.size 32 #[.int .i64 op, .int .i64 a, .int .i64 b, .int .i64 c, .int .i64 imm] := (Blk.made w _ _).kept hw1 id
  have d0 : w1.cell? ⟨w.heap.size, 0, none⟩ = some (.int .i64 op) := hb.cell 0
  have d1 : w1.cell? ⟨w.heap.size, 1, none⟩ = some (.int .i64 a) := hb.cell 1
  have d2 : w1.cell? ⟨w.heap.size, 2, none⟩ = some (.int .i64 b) := hb.cell 2
  have d3 : w1.cell? ⟨w.heap.size, 3, none⟩ = some (.int .i64 c) := hb.cell 3
  have d4 : w1.cell? ⟨w.heap.size, 4, none⟩ = some (.int .i64 imm) := hb.cell 4
  have HW1 := Lib.hid hw1
  clear hw1
  clear hb
  generalize hasA op = ba at *
  generalize hasB op = bb at *
  generalize hasC op = bc at *
  generalize hasI op = bi at *
  go_wp2_with (first | (go_at_call 38; refine (register_any _ _ _).mono ?_; rintro e w' ⟨rfl, rfl⟩) | (go_at_call 39; refine (number_any bi ⟨op, a, b, c, imm⟩ n locks _).mono ?_; rintro e w2 ⟨rfl, hw2⟩))
  all_goals
    go_ret2
    refine ⟨ret_two ?_, ?_⟩
    rotate_left
    · first | exact ((Kept.refl _ _).alloc _).trans HW1.out | exact (((Kept.refl _ _).alloc _).trans HW1.out).trans hw2
    rw [HW.out]
    go_light
    simp_all
theorem check_any (x : Ins) (n locks : Int) (w : World) : Calls Try.prog 18 #[agg x, .int .i64 n, .int .i64 locks] w fun e w' => e = .returned (.int .i64 (check x n locks)) ∧ New w w' := by
  have h := fun W => wrong_any x n locks W
  have H_ := Lib.hid h
  clear h
  have E := Lib.hid (show check x n locks = (wrong x n locks).1 from rfl)
  generalize wrong x n locks = m at *
  generalize check x n locks = c at *
  obtain ⟨op, a, b, c, imm⟩ := x
  unfold agg at *
  go_enter Try.func18, Try.ntmps18
  go_wp2_with fail
  refine (H_.out _).mono ?_
  rintro e w1 ⟨rfl, hw1⟩
  go_wp2_with fail
  go_ret
  exact ⟨by rw [E.out]; rfl, ((Kept.refl _ _).alloc _).trans hw1⟩
end Go.Proofs.Ytilioiebecpknaa.Code
