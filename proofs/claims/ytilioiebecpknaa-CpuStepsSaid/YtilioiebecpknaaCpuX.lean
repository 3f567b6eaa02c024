/- The walk of the reference's Step (layer 13). -/
import Derived.Test.YtilioiebecpknaaCpuXa
import Derived.Test.YtilioiebecpknaaCpuXb
import Derived.Test.YtilioiebecpknaaCpuXc
import Derived.Test.YtilioiebecpknaaCpuXd
import Derived.Test.YtilioiebecpknaaCpuXe
namespace Go.Proofs.Ytilioiebecpknaa.CpuR
open Go.RowKit Go.Fb Go.BytesP Go.CodeP Go.CpuP _root_.Go.Proofs.Ytilioiebecpknaa.Code _root_.Go.Proofs.Ytilioiebecpknaa.Cpu
set_option linter.unusedVariables false
theorem rstep_any (c : Core) (A : Option Addr) (n k : Nat) (l : List Ins) (tick self : Int) (w : World) (hl : SliceOf repIns w w.heap.size A n k l) (hin : InC c) :
    Calls Try.prog 8 #[coreV c, .slice A n k, .int .i64 tick, .int .i64 self] w fun e w' => e = .returned (.tuple #[coreV (stepX c l tick self).1, wantV (stepX c l tick self).2]) ∧ New w w' := by
  cases his : isR c l
  · exact rstep_no c A n k l tick self w hl hin his
  have hrg := (check_regs (stepX_in (tick := tick) (self := self) his).1).1
  by_cases o0 : (atPC c l).1.op = 0
  · exact rstep_0 c A n k l tick self w hl hin his o0
  by_cases o24 : (atPC c l).1.op = 24
  · exact rstep_24 c A n k l tick self w hl hin his o24
  by_cases o25 : (atPC c l).1.op = 25
  · exact rstep_25 c A n k l tick self w hl hin his o25
  by_cases o26 : (atPC c l).1.op = 26
  · exact rstep_26 c A n k l tick self w hl hin his o26
  by_cases o27 : (atPC c l).1.op = 27
  · exact rstep_27 c A n k l tick self w hl hin his o27
  by_cases o28 : (atPC c l).1.op = 28
  · exact rstep_28 c A n k l tick self w hl hin his o28
  by_cases o29 : (atPC c l).1.op = 29
  · exact rstep_29 c A n k l tick self w hl hin his o29
  by_cases o30 : (atPC c l).1.op = 30
  · exact rstep_30 c A n k l tick self w hl hin his o30
  by_cases o31 : (atPC c l).1.op = 31
  · exact rstep_31 c A n k l tick self w hl hin his o31
  exact rstep_reckons c A n k l tick self w hl hin his (by unfold Reckons; omega)
end Go.Proofs.Ytilioiebecpknaa.CpuR
