/- The reference's readings against the plain decoder's (layer 14). No program in sight. -/
import Derived.Test.YtaefgljpdpigeaaConfD
namespace Go.Proofs.Ytaefgljpdpigeaa.Conf
open Go.RowKit Go.Fb Go.CodeP Go.BytesP Go.ReaderP
set_option linter.unusedVariables false
/-- A number with bounds, by the reference, is the plain one. -/
theorem run_int {b : List UInt8} {m : Nat} {least most low high : Int} {f : Nat → Int} (hl : low ≠ 0) (hh : high ≠ 0) (hf : ∀ v : Nat, f v = if (v : Int) < least then low else if most < (v : Int) then high else 0) (s : St) :
    Run (numD b m f) s (rInt b s m least most low high).2 (rInt b s m least most low high).1.toNat := by
  cases s with
  | error e => rfl
  | ok p =>
    unfold Run numD rInt Agr
    simp only
    by_cases h1 : b.length < p + m
    · rw [if_pos h1, if_pos h1]
    · rw [if_neg h1, if_neg h1, hf]
      by_cases h2 : (numV b p m : Int) < least
      · rw [if_pos h2, if_neg hl]; simp only [if_pos h2]
      · by_cases h3 : most < (numV b p m : Int)
        · rw [if_neg h2, if_pos h3, if_neg hh]; simp only [if_neg h2, if_pos h3]
        · rw [if_neg h2, if_neg h3, if_pos rfl]; simp only [if_neg h2, if_neg h3, Int.toNat_natCast]; exact ⟨trivial, trivial⟩
/-- The bytes that must come, by the reference, are the plain ones. -/
theorem mark_run (b : List UInt8) : ∀ (l : List UInt8) (p : Nat), rMark b (.ok p) l = markD b l p
  | [], p => rfl
  | c :: l, p => by
    unfold rMark markD numD
    by_cases h1 : b.length < p + 1
    · rw [if_pos h1, if_pos h1]; simp only [rMark_error]
    · rw [if_neg h1, if_neg h1]
      by_cases h2 : numV b p 1 = c.toNat
      · have e : (fun v => if v = c.toNat then (0 : Int) else 4) (numV b p 1) = 0 := if_pos h2
        rw [if_pos h2, if_pos e]; exact mark_run b l (p + 1)
      · have e : (fun v => if v = c.toNat then (0 : Int) else 4) (numV b p 1) = 4 := if_neg h2
        rw [if_neg h2, if_neg (show ¬ (fun v => if v = c.toNat then (0 : Int) else 4) (numV b p 1) = 0 by rw [e]; decide), e]; exact rMark_error b _ l
end Go.Proofs.Ytaefgljpdpigeaa.Conf
