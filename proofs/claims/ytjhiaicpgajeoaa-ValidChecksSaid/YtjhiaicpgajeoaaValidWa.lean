/- The walk of bits.Len of a set (layer 8). -/
import Derived.Test.YtjhiaicpgajeoaaCodeW
import Derived.Lib.Tables
namespace Go.Proofs.Ytjhiaicpgajeoaa.Valid
open Go.RowKit Go.Fb
set_option linter.unusedVariables false
def lenB (h : Nat) : Nat := if h = 0 then 0 else Nat.log2 h + 1
theorem len_tab : ∀ h < 256, wrap64 (wrap64 (Lib.len8 ((h : Nat) : Int))) = (lenB h : Int) := by decide +kernel
set_option maxRecDepth 100000 in
theorem len64_any {h : Nat} (hh : h < 256) (w : World) : Calls Try.prog 42 #[.int .u64 h] w fun e w' => e = .returned (.int .i64 (lenB h)) ∧ w' = w := by
  have d1 : decide (4294967296 ≤ (h : Int)) = false := by simp; omega
  have d2 : decide (65536 ≤ (h : Int)) = false := by simp; omega
  have d3 : decide (256 ≤ (h : Int)) = false := by simp; omega
  have hb : (h : Int) ≤ 255 := by omega
  have hz : (0 : Int) ≤ (h : Int) := by omega
  go_enter Try.func42, Try.ntmps42
  go_wp2_with fail
  go_ret
  exact ⟨by rw [← len_tab h hh]; rfl, rfl⟩
theorem len_any {h : Nat} (hh : h < 256) (w : World) : Calls Try.prog 36 #[.int .u64 h] w fun e w' => e = .returned (.int .i64 (lenB h)) ∧ w' = w := by
  have H := len64_any hh w
  go_enter Try.func36, Try.ntmps36
  go_wp2_with fail
  refine H.mono ?_
  rintro e w' ⟨rfl, rfl⟩
  go_wp2_with fail
  go_ret
  exact ⟨rfl, rfl⟩
theorem lenB_gt : ∀ h < 256, ∀ k < 8, lenB h > k ↔ 0 < h >>> k := by decide +kernel
end Go.Proofs.Ytjhiaicpgajeoaa.Valid
