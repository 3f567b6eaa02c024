/- The walk of the reference's reckons (layer 13). -/
import Derived.Test.YtilioiebecpknaaCpuVa
import Derived.Test.YtilioiebecpknaaCpuVb
import Derived.Test.YtilioiebecpknaaCpuVc
import Derived.Test.YtilioiebecpknaaCpuVd
import Derived.Test.YtilioiebecpknaaCpuVe
namespace Go.Proofs.Ytilioiebecpknaa.CpuR
open Go.RowKit Go.Fb Go.BytesP Go.CodeP Go.CpuP _root_.Go.Proofs.Ytilioiebecpknaa.Code _root_.Go.Proofs.Ytilioiebecpknaa.Cpu
set_option linter.unusedVariables false
theorem reckons_any (c : Core) (x : Ins) (tick self : Int) (w : World) (hop : Reckons x.op) (ha : 0 ≤ x.a ∧ x.a < 8) (hb : 0 ≤ x.b ∧ x.b < 8) (hc : 0 ≤ x.c ∧ x.c < 8) (hin : InC c) :
    Calls Try.prog 24 #[coreV c, agg x, .int .i64 tick, .int .i64 self] w fun e w' => e = .returned (coreV (reckon (valX x.op (c.get x.b) (c.get x.c)) x c tick self)) ∧ New w w' := by
  unfold Reckons at hop
  by_cases o1 : x.op = 1
  · exact reckons_1 c x tick self w o1 ha hb hc hin
  by_cases o2 : x.op = 2
  · exact reckons_2 c x tick self w o2 ha hb hc hin
  by_cases o32 : x.op = 32
  · exact reckons_32 c x tick self w o32 ha hb hc hin
  by_cases o33 : x.op = 33
  · exact reckons_33 c x tick self w o33 ha hb hc hin
  by_cases o22 : x.op = 22
  · exact reckons_22 c x tick self w o22 ha hb hc hin
  by_cases o23 : x.op = 23
  · exact reckons_23 c x tick self w o23 ha hb hc hin
  by_cases o15 : x.op = 15
  · exact reckons_15 c x tick self w o15 ha hb hc hin
  by_cases o16 : x.op = 16
  · exact reckons_16 c x tick self w o16 ha hb hc hin
  by_cases o17 : x.op = 17
  · exact reckons_17 c x tick self w o17 ha hb hc hin
  by_cases o18 : x.op = 18
  · exact reckons_18 c x tick self w o18 ha hb hc hin
  by_cases o19 : x.op = 19
  · exact reckons_19 c x tick self w o19 ha hb hc hin
  by_cases o20 : x.op = 20
  · exact reckons_20 c x tick self w o20 ha hb hc hin
  by_cases o21 : x.op = 21
  · exact reckons_21 c x tick self w o21 ha hb hc hin
  exact reckons_alu c x tick self w (by omega) ha hb hc hin
end Go.Proofs.Ytilioiebecpknaa.CpuR
