/- Structs compared (layer 18). -/
import Derived.Test.YtgdmajockejpgaaViewP
namespace Go.Proofs.Ytgdmajockejpgaa.View
open Go.RowKit Go.Fb
theorem eq2 (a0 a1 b0 b1 : Int) (w : World) : (Op.equalIn 10000 55 (.agg #[.int .i64 a0, .int .i64 a1]) (.agg #[.int .i64 b0, .int .i64 b1])).run Try.prog w = .ok (a0 == b0 && a1 == b1) w := by
  by_cases h0 : a0 = b0 <;> by_cases h1 : a1 = b1
  all_goals go_simp
  all_goals simp_all
theorem eq3 (a0 a1 a2 b0 b1 b2 : Int) (w : World) : (Op.equalIn 10000 45 (.agg #[.int .i64 a0, .int .i64 a1, .int .i64 a2]) (.agg #[.int .i64 b0, .int .i64 b1, .int .i64 b2])).run Try.prog w = .ok (a0 == b0 && a1 == b1 && a2 == b2) w := by
  by_cases h0 : a0 = b0 <;> by_cases h1 : a1 = b1 <;> by_cases h2 : a2 = b2
  all_goals go_simp
  all_goals simp_all
end Go.Proofs.Ytgdmajockejpgaa.View
