/- The walks of the reference's stand, wrong, behind (layer 8). -/
import Derived.Test.YtjhiaicpgajeoaaValidB
namespace Go.Proofs.Ytjhiaicpgajeoaa.Valid
open Go.RowKit Go.Fb Go.BytesP Go.CodeP Go.ValidP
open Go.Proofs.Ytjhiaicpgajeoaa.Code (repIns ins_at ins_wf cellsI Wf)
set_option linter.unusedVariables false
/-- A stand as one number. -/
def codeS (s : Stand) : Nat := 256 * s.1 + s.2
theorem stand_any {p h : Nat} (hp : p ≤ 256) (hh : h < 256) (w : World) : Calls Try.prog 24 #[.int .i64 p, .int .i64 h] w fun e w' => e = .returned (.int .i64 (codeS (p, h) : Nat)) ∧ w' = w := by
  go_enter Try.func24, Try.ntmps24
  go_wp2_with fail
  go_ret
  exact ⟨by unfold codeS; rfl, rfl⟩
/-- What is wrong with a stand, by its instruction. -/
def wrongI (x : Ins) (h : Nat) : Int := if x.op = 29 then (if 0 < h >>> x.imm.toNat then 14 else 0) else if x.op = 30 then (if (h >>> x.imm.toNat) % 2 = 0 then 14 else 0)
      else if x.op = 24 ∨ x.op = 25 ∨ x.op = 28 then (if h ≠ 0 then 16 else 0) else 0
theorem wrongI_at {l : List Ins} {p h : Nat} {x : Ins} (hx : l[p]? = some x) : wrongS l (p, h) = wrongI x h := by
  unfold wrongS
  simp only [hx]
  rfl
set_option maxHeartbeats 2000000 in
theorem rwrong_any {x : Ins} {h : Nat} {w : World} (hh : h < 256) (hnb : x.op = 29 ∨ x.op = 30 → 0 ≤ x.imm ∧ x.imm < 8) :
    Calls Try.prog 31 #[.agg #[.int .i64 x.op, .int .i64 x.a, .int .i64 x.b, .int .i64 x.c, .int .i64 x.imm], .int .i64 h] w fun e w' => e = .returned (.int .i64 (wrongI x h)) ∧ New w w' := by
  obtain ⟨op, xa, xb, xc, imm⟩ := x
  simp only at hnb ⊢
  simp only [wrongI]
  by_cases e3 : op = 29
  · subst e3
    rw [if_pos rfl]
    obtain ⟨hi, hi8⟩ := hnb (.inl rfl)
    clear hnb
    have hsh := shr_int (h := h) hi
    by_cases e5 : 0 < h >>> imm.toNat
    · rw [if_pos e5]
      generalize h >>> imm.toNat = g at *
      have hi9 : imm ≤ 7 := by omega
      go_enter Try.func31, Try.ntmps31
      go_wp2_with fail
      go_ret
      exact ⟨rfl, (Kept.refl _ _).alloc _⟩
    · rw [if_neg e5]
      rw [Nat.eq_zero_of_not_pos e5] at hsh
      have hsh : (h : Int) / 2 ^ imm.toNat = 0 := hsh
      have hi9 : imm ≤ 7 := by omega
      clear e5
      go_enter Try.func31, Try.ntmps31
      go_wp2_with fail
      go_ret
      exact ⟨rfl, (Kept.refl _ _).alloc _⟩
  have g3 : (op == 29) = false := by simpa using e3
  rw [if_neg e3]
  by_cases e4 : op = 30
  · subst e4
    rw [if_pos rfl]
    obtain ⟨hi, hi8⟩ := hnb (.inr rfl)
    clear hnb
    have hsl : h >>> imm.toNat < 256 := Nat.lt_of_le_of_lt (by rw [Nat.shiftRight_eq_div_pow]; exact Nat.div_le_self _ _) hh
    have hsh2 := ibits_and1 hsl
    rw [← shr_int hi] at hsh2
    have hi9 : imm ≤ 7 := by omega
    by_cases e5 : h >>> imm.toNat % 2 = 0
    · rw [if_pos e5]
      rw [e5] at hsh2
      have hsh2 : bits BinOp.and IntKind.i64 ((h : Int) / 2 ^ imm.toNat) 1 = 0 := hsh2
      have HSL := Lib.hid hsl
      have E5 := Lib.hid e5
      clear hsl e5
      go_enter Try.func31, Try.ntmps31
      go_wp2_with fail
      go_ret
      exact ⟨rfl, (Kept.refl _ _).alloc _⟩
    · rw [if_neg e5]
      have e6 : h >>> imm.toNat % 2 = 1 := by
        rcases Nat.mod_two_eq_zero_or_one (h >>> imm.toNat) with e | e
        · exact absurd e e5
        · exact e
      rw [e6] at hsh2
      have hsh2 : bits BinOp.and IntKind.i64 ((h : Int) / 2 ^ imm.toNat) 1 = 1 := hsh2
      have HSL := Lib.hid hsl
      have E5 := Lib.hid e5
      have E6 := Lib.hid e6
      clear hsl e5 e6
      go_enter Try.func31, Try.ntmps31
      go_wp2_with fail
      go_ret
      exact ⟨rfl, (Kept.refl _ _).alloc _⟩
  have g4 : (op == 30) = false := by simpa using e4
  rw [if_neg e4]
  clear hnb
  by_cases e5 : h = 0
  · subst e5
    rw [if_neg (show ¬ (0 : Nat) ≠ 0 by omega), ite_self]
    by_cases e6 : op = 24 ∨ op = 25 ∨ op = 28
    · rcases e6 with rfl | rfl | rfl
      all_goals
        go_enter Try.func31, Try.ntmps31
        go_wp2_with fail
        go_ret
        exact ⟨rfl, (Kept.refl _ _).alloc _⟩
    · have k1 : (op == 24) = false := by simp; omega
      have k2 : (op == 25) = false := by simp; omega
      have k3 : (op == 28) = false := by simp; omega
      go_enter Try.func31, Try.ntmps31
      go_wp2_with fail
      go_ret
      exact ⟨rfl, (Kept.refl _ _).alloc _⟩
  · rw [if_pos e5]
    have h9 : 0 < h := by omega
    by_cases e6 : op = 24 ∨ op = 25 ∨ op = 28
    · rw [if_pos e6]
      rcases e6 with rfl | rfl | rfl
      all_goals
        go_enter Try.func31, Try.ntmps31
        go_wp2_with fail
        go_ret
        exact ⟨rfl, (Kept.refl _ _).alloc _⟩
    · rw [if_neg e6]
      have k1 : (op == 24) = false := by simp; omega
      have k2 : (op == 25) = false := by simp; omega
      have k3 : (op == 28) = false := by simp; omega
      go_enter Try.func31, Try.ntmps31
      go_wp2_with fail
      go_ret
      exact ⟨rfl, (Kept.refl _ _).alloc _⟩
/-- How a number lies. -/
def repNat : Rep Nat where
  size := 1
  cells _ _ n cs := cs = [.int .i64 n]
  length h := by rw [h]; rfl
  stays _ h := h
  more _ h := h
/-- A list of numbers in new memory. -/
def NextR (w : World) (L : List Nat) (e : Ending) (w' : World) : Prop := New w w' ∧ ∃ A m c, e = .returned (.slice A m c) ∧ SliceOf repNat w' w'.heap.size A m c L ∧ ∀ b o s, A = some ⟨b, o, s⟩ → w.heap.size ≤ b
end Go.Proofs.Ytjhiaicpgajeoaa.Valid
