/- The walks of chapter 6's reference: Fields, register, Wrong, Check. -/
import Derived.Test.YtilioiebecpknaaCodeF
namespace Go.Proofs.Ytilioiebecpknaa.Code
open Go.RowKit Go.Fb Go.BytesP Go.CodeP
set_option linter.unusedVariables false

theorem results_tmp4 {fn : Func} {t u v x : Tmp} (h : fn.results = #[.tmp t, .tmp u, .tmp v, .tmp x]) (tmps : Array Value) (P : Program) (w : World) :
    (results fn tmps).run P w = .ok (.tuple #[tmps.getD t undef, tmps.getD u undef, tmps.getD v undef, tmps.getD x undef]) w := by
  simp [results, h]
theorem ret_four {a b c d a' b' c' d' : Bool} (h1 : a = a') (h2 : b = b') (h3 : c = c') (h4 : d = d') : Ending.returned (.tuple #[.bool a, .bool b, .bool c, .bool d]) = .returned (.tuple #[.bool a', .bool b', .bool c', .bool d']) := by rw [h1, h2, h3, h4]
set_option maxHeartbeats 2000000 in
theorem ref_fields (op : Int) (w : World) : Calls Try.prog 58 #[.int .i64 op] w fun e w' => e = .returned (.tuple #[.bool (hasA op), .bool (hasB op), .bool (hasC op), .bool (hasI op)]) ∧ w = w' := by
  go_enter Try.func58, Try.ntmps58
  go_wp2
  all_goals
    refine bodyPost_ret (results_tmp4 rfl _ _ _) rfl ?_
    refine ⟨ret_four ?_ ?_ ?_ ?_, rfl⟩
    all_goals
      go_light
      simp_all [hasA, hasB, hasC, hasI]
      try omega
theorem ref_register (has : Bool) (n : Int) (w : World) : Calls Try.prog 59 #[.int .i64 n, .bool has] w fun e w' => e = .returned (.int .i64 (reg has n)) ∧ w = w' := by
  cases has
  all_goals
    go_enter Try.func59, Try.ntmps59
    go_wp2
    all_goals
      go_ret
      refine ⟨ret_int ?_, rfl⟩
      go_light
      unfold reg
      simp_all
      try omega
/-- What the reference tells: where nothing is wrong, no place. -/
def rwrong (x : Ins) (n locks : Int) : Int × Int := if (wrong x n locks).1 = 0 then (0, 0) else wrong x n locks
def chain (ba bb bc bi : Bool) (x : Ins) (n locks : Int) : Int × Int :=
  if reg ba x.a ≠ 0 then (reg ba x.a, 1) else if reg bb x.b ≠ 0 then (reg bb x.b, 2) else if reg bc x.c ≠ 0 then (reg bc x.c, 3)
  else if bi = false ∧ x.imm ≠ 0 then (11, 4) else if (x.op = 22 ∨ x.op = 23) ∧ (x.imm < 0 ∨ n < x.imm) then (12, 4) else if (x.op = 29 ∨ x.op = 30) ∧ (x.imm < 0 ∨ locks ≤ x.imm) then (13, 4) else (0, 0)
theorem rwrong_chain (x : Ins) (n locks : Int) (h0 : 0 ≤ x.op) (h1 : x.op < 34) : rwrong x n locks = chain (hasA x.op) (hasB x.op) (hasC x.op) (hasI x.op) x n locks := by
  unfold rwrong wrong chain
  rw [if_neg (show ¬ (x.op < 0 ∨ 34 ≤ x.op) by omega)]
  by_cases ha : reg (hasA x.op) x.a ≠ 0
  · rw [if_pos ha, if_pos ha, if_neg ha]
  · rw [if_neg ha, if_neg ha]
    by_cases hb : reg (hasB x.op) x.b ≠ 0
    · rw [if_pos hb, if_pos hb, if_neg hb]
    · rw [if_neg hb, if_neg hb]
      by_cases hc : reg (hasC x.op) x.c ≠ 0
      · rw [if_pos hc, if_pos hc, if_neg hc]
      · rw [if_neg hc, if_neg hc]
        unfold number
        simp only
        by_cases g1 : hasI x.op = false ∧ x.imm ≠ 0
        · simp [g1]
        · rw [if_neg g1, if_neg g1]
          by_cases g2 : (x.op = 22 ∨ x.op = 23) ∧ (x.imm < 0 ∨ n < x.imm)
          · simp [g2]
          · rw [if_neg g2, if_neg g2]
            by_cases g3 : (x.op = 29 ∨ x.op = 30) ∧ (x.imm < 0 ∨ locks ≤ x.imm)
            · simp [g3]
            · rw [if_neg g3, if_neg g3, if_pos rfl]
set_option maxHeartbeats 4000000 in
theorem ref_wrong (x : Ins) (n locks : Int) (w : World) : Calls Try.prog 42 #[agg x, .int .i64 n, .int .i64 locks] w fun e w' => e = .returned (.tuple #[.int .i64 (rwrong x n locks).1, .int .i64 (rwrong x n locks).2]) ∧ New w w' := by
  by_cases h0 : x.op < 0
  · have E := Lib.hid (show rwrong x n locks = (9, 0) by have e : wrong x n locks = (9, 0) := (by unfold wrong; rw [if_pos (by omega)]); unfold rwrong; rw [e]; rfl)
    obtain ⟨op, a, b, c, imm⟩ := x
    unfold agg
    simp only at h0
    go_enter Try.func42, Try.ntmps42
    go_wp2
    go_ret2
    rw [E.out]
    exact ⟨rfl, (Kept.refl _ _).alloc _⟩
  by_cases h1 : 34 ≤ x.op
  · have E := Lib.hid (show rwrong x n locks = (9, 0) by have e : wrong x n locks = (9, 0) := (by unfold wrong; rw [if_pos (by omega)]); unfold rwrong; rw [e]; rfl)
    obtain ⟨op, a, b, c, imm⟩ := x
    unfold agg
    simp only at h0 h1
    go_enter Try.func42, Try.ntmps42
    go_wp2
    go_ret2
    rw [E.out]
    exact ⟨rfl, (Kept.refl _ _).alloc _⟩
  have hw := rwrong_chain x n locks (by omega) (by omega)
  have HW := Lib.hid hw
  clear hw
  obtain ⟨op, a, b, c, imm⟩ := x
  simp only at h0 h1 HW
  unfold agg
  go_enter Try.func42, Try.ntmps42
  go_wp2_with fail
  refine (ref_fields _ _).mono ?_
  rintro e w1 ⟨rfl, rfl⟩
  generalize hasA op = ba at *
  generalize hasB op = bb at *
  generalize hasC op = bc at *
  generalize hasI op = bi at *
  go_wp2_with (go_at_call 59; refine (ref_register _ _ _).mono ?_; rintro e w' ⟨rfl, rfl⟩)
  all_goals
    go_ret2
    refine ⟨ret_two ?_, ?_⟩
    rotate_left
    · exact (Kept.refl _ _).alloc _
    have hc := HW.out
    clear HW
    go_light
    unfold chain at hc
    simp_all
    try omega
theorem ref_check (x : Ins) (n locks : Int) (w : World) : Calls Try.prog 34 #[agg x, .int .i64 n, .int .i64 locks] w fun e w' => e = .returned (.int .i64 (check x n locks)) ∧ New w w' := by
  have h := fun W => ref_wrong x n locks W
  have H_ := Lib.hid h
  clear h
  have E := Lib.hid (show check x n locks = (rwrong x n locks).1 by
    unfold check rwrong
    split
    · rename_i h; exact h
    · rfl)
  generalize rwrong x n locks = m at *
  generalize check x n locks = c at *
  obtain ⟨op, a, b, c, imm⟩ := x
  unfold agg at *
  go_enter Try.func34, Try.ntmps34
  go_wp2_with fail
  refine (H_.out _).mono ?_
  rintro e w1 ⟨rfl, hw1⟩
  go_wp2_with fail
  go_ret
  exact ⟨by rw [E.out]; rfl, ((Kept.refl _ _).alloc _).trans hw1⟩
end Go.Proofs.Ytilioiebecpknaa.Code
