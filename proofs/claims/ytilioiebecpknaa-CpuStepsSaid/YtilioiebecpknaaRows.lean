/-
  No cell of these rows narrows 'for every input' (looked for: loops, veiled, ifaces, maps, wideKeys, modest, calm, conditions, laid).
  DERIVED. THE GIVEN ROWS OF THIS SEAT. 3 by the template 'for every input the law returns true; each argument reads behind the call as it read before'; 0 by the template 'total and deterministic' (their statements: YtilioiebecpknaaTotals.lean).
  GIVEN WITH THE SEED: the statements are not yours to turn. If you find one false, say at which input.
  Laid BY PROGRAM, IN A SANDBOX (cutbox-rows.mjs): the forced cells as the released guide's own fill.sh prints them over the translation 77ab2748264b8429… (all of the seat's roots in one cut). By AI agents, Wed Nov 11 2026. No macro, syntax, notation, axiom, sorry.
-/
import Derived.Test.YtilioiebecpknaaChecked
import GoSem.Claim
import GoSem.ClaimJoined
import GoSem.ClaimMapViews
import Derived.JoinedTies
import Derived.KernelRfl
namespace Go.Proofs.Ytilioiebecpknaa
/- THE CELL 'sum', in the pinned program and in every row, IS THE sha256 OF THE DUMP (.gsa) THAT YtilioiebecpknaaProg.lean LOADS. Nothing in Lean hashes anything: it is a label: what it is worth is what the hold of that sum in a sandbox is worth. -/
noncomputable def Try.pinned : Pinned := { name := "ytilioiebecpknaa", sum := "77ab2748264b8429512522f4990f4528e0ca630ce79005593f857c050f96139b", checked := Try.checked }
namespace Rows
def none {H : Type} : Left H := { results := [], args := [] }

/-- 'firebreaklaw13.CpuNames': WHATEVER THE INPUT: true; the input reads as it did. -/
def cpuNamesSpec : ChangeSpec := { name := "cpuNames", fn := fun _ => fun
  | [] => { results := [.lit (.bool true)], args := [] }
  | _ => none }
def cpuNamesRow : OpenClaim := { program := "ytilioiebecpknaa", sum := "77ab2748264b8429512522f4990f4528e0ca630ce79005593f857c050f96139b", func := "firebreak/firebreaklaw13.CpuNames", spec := "cpuNames", inPlace := ["internal/bytealg.IndexByteString", "internal/bytealg.IndexString", "math.Float64frombits", "math.Float64bits"], unfollowed := true, recurses := true, named := ["internal/bytealg.MaxLen"], apart := false }
def CpuNamesSaid : Prop := cpuNamesRow.holds Try.pinned (OpenSpec.ofChange cpuNamesSpec)

/-- ITS FALSE NEIGHBOUR: 'it returns false'. Refute it at one input. -/
def cpuNamesWrong : ChangeSpec := { name := "cpuNames", fn := fun _ => fun
  | [] => { results := [.lit (.bool false)], args := [] }
  | _ => none }
def CpuNamesWrongFalsely : Prop := cpuNamesRow.holds Try.pinned (OpenSpec.ofChange cpuNamesWrong)

/-- 'firebreaklaw13.CpuChanges': WHATEVER THE INPUT: true; the input reads as it did. -/
def cpuChangesSpec : ChangeSpec := { name := "cpuChanges", fn := fun _ => fun
  | [d1, d2, d3, d4] => { results := [.lit (.bool true)], args := [d1, d2, d3, d4] }
  | _ => none }
def cpuChangesRow : OpenClaim := { program := "ytilioiebecpknaa", sum := "77ab2748264b8429512522f4990f4528e0ca630ce79005593f857c050f96139b", func := "firebreak/firebreaklaw13.CpuChanges", spec := "cpuChanges", inPlace := ["internal/bytealg.IndexByteString", "internal/bytealg.IndexString", "math.Float64frombits", "math.Float64bits"], unfollowed := true, recurses := true, named := ["internal/bytealg.MaxLen"], apart := false }
def CpuChangesSaid : Prop := cpuChangesRow.holds Try.pinned (OpenSpec.ofChange cpuChangesSpec)

/-- ITS FALSE NEIGHBOUR: 'it returns false'. Refute it at one input. -/
def cpuChangesWrong : ChangeSpec := { name := "cpuChanges", fn := fun _ => fun
  | [d1, d2, d3, d4] => { results := [.lit (.bool false)], args := [d1, d2, d3, d4] }
  | _ => none }
def CpuChangesWrongFalsely : Prop := cpuChangesRow.holds Try.pinned (OpenSpec.ofChange cpuChangesWrong)

/-- 'firebreaklaw13.CpuSteps': WHATEVER THE INPUT: true; the input reads as it did. -/
def cpuStepsSpec : ChangeSpec := { name := "cpuSteps", fn := fun _ => fun
  | [d1, d2, d3, d4, d5, d6] => { results := [.lit (.bool true)], args := [d1, d2, d3, d4, d5, d6] }
  | _ => none }
def cpuStepsRow : OpenClaim := { program := "ytilioiebecpknaa", sum := "77ab2748264b8429512522f4990f4528e0ca630ce79005593f857c050f96139b", func := "firebreak/firebreaklaw13.CpuSteps", spec := "cpuSteps", inPlace := ["internal/bytealg.IndexByteString", "internal/bytealg.IndexString", "math.Float64frombits", "math.Float64bits"], unfollowed := true, recurses := true, named := ["internal/bytealg.MaxLen"], apart := false }
def CpuStepsSaid : Prop := cpuStepsRow.holds Try.pinned (OpenSpec.ofChange cpuStepsSpec)

/-- ITS FALSE NEIGHBOUR: 'it returns false'. Refute it at one input. -/
def cpuStepsWrong : ChangeSpec := { name := "cpuSteps", fn := fun _ => fun
  | [d1, d2, d3, d4, d5, d6] => { results := [.lit (.bool false)], args := [d1, d2, d3, d4, d5, d6] }
  | _ => none }
def CpuStepsWrongFalsely : Prop := cpuStepsRow.holds Try.pinned (OpenSpec.ofChange cpuStepsWrong)

/- THE SECOND FORM. 'bulk': how many values and letters a reading holds, each counted each time it is reached (what is shared counts as often as it is met; a slice's spare places count too). A statement '..UptoSaid' is the law's where the arguments, and the package variables that the reading takes, are together of bulk at most 1048576: NARROWER than '..Said'. Prove '..Said' where nothing that the law and all that it calls make is longer than what came in: it says more and counts as full. Else prove '..UptoSaid'. A law counts once. -/
mutual
def uptoBulk {H : Type} : DataW H → Nat
  | .lit (.string bytes) => bytes.length + 1
  | .lit _ => 1
  | .nil => 1
  | .ptr d => uptoBulk d + 1
  | .slice elems spare => uptoBulkAll elems + uptoBulkAll spare + 1
  | .agg parts => uptoBulkAll parts + 1
  | .iface _ d => uptoBulk d + 1
  | .map entries => uptoBulkEntries entries + 1
  | .held _ => 1
def uptoBulkAll {H : Type} : List (DataW H) → Nat
  | [] => 0
  | d :: r => uptoBulk d + uptoBulkAll r
def uptoBulkEntries {H : Type} : List (Lit × DataW H) → Nat
  | [] => 0
  | x :: r => uptoBulkEntry x + uptoBulkEntries r
def uptoBulkEntry {H : Type} : Lit × DataW H → Nat
  | (.string bytes, d) => bytes.length + uptoBulk d + 1
  | (_, d) => uptoBulk d + 1
 end
def uptoSmall : (H : Type) → List (DataW H) → Bool := fun _ ds => decide (uptoBulkAll ds ≤ 1048576)
def OpenSpec.upto (s : _root_.Go.ChangeSpec) : _root_.Go.OpenSpec := { _root_.Go.OpenSpec.ofChange s with cond := some uptoSmall }

/-- 'firebreaklaw13.CpuNames', WHERE WHAT IT READS IS OF BULK AT MOST 1048576: true; the input reads as it did. -/
def cpuNamesUptoRow : OpenClaim := { program := "ytilioiebecpknaa", sum := "77ab2748264b8429512522f4990f4528e0ca630ce79005593f857c050f96139b", func := "firebreak/firebreaklaw13.CpuNames", spec := "cpuNames", inPlace := ["internal/bytealg.IndexByteString", "internal/bytealg.IndexString", "math.Float64frombits", "math.Float64bits"], unfollowed := true, recurses := true, named := ["internal/bytealg.MaxLen"], apart := false, narrowed := true }
def CpuNamesUptoSaid : Prop := cpuNamesUptoRow.holds Try.pinned (OpenSpec.upto cpuNamesSpec)

/-- 'firebreaklaw13.CpuChanges', WHERE WHAT IT READS IS OF BULK AT MOST 1048576: true; the input reads as it did. -/
def cpuChangesUptoRow : OpenClaim := { program := "ytilioiebecpknaa", sum := "77ab2748264b8429512522f4990f4528e0ca630ce79005593f857c050f96139b", func := "firebreak/firebreaklaw13.CpuChanges", spec := "cpuChanges", inPlace := ["internal/bytealg.IndexByteString", "internal/bytealg.IndexString", "math.Float64frombits", "math.Float64bits"], unfollowed := true, recurses := true, named := ["internal/bytealg.MaxLen"], apart := false, narrowed := true }
def CpuChangesUptoSaid : Prop := cpuChangesUptoRow.holds Try.pinned (OpenSpec.upto cpuChangesSpec)

/-- 'firebreaklaw13.CpuSteps', WHERE WHAT IT READS IS OF BULK AT MOST 1048576: true; the input reads as it did. -/
def cpuStepsUptoRow : OpenClaim := { program := "ytilioiebecpknaa", sum := "77ab2748264b8429512522f4990f4528e0ca630ce79005593f857c050f96139b", func := "firebreak/firebreaklaw13.CpuSteps", spec := "cpuSteps", inPlace := ["internal/bytealg.IndexByteString", "internal/bytealg.IndexString", "math.Float64frombits", "math.Float64bits"], unfollowed := true, recurses := true, named := ["internal/bytealg.MaxLen"], apart := false, narrowed := true }
def CpuStepsUptoSaid : Prop := cpuStepsUptoRow.holds Try.pinned (OpenSpec.upto cpuStepsSpec)

end Rows
end Go.Proofs.Ytilioiebecpknaa
