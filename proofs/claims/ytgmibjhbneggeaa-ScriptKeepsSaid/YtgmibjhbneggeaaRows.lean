/-
  No cell of these rows narrows 'for every input' (looked for: loops, veiled, ifaces, maps, wideKeys, modest, calm, conditions, laid).
  DERIVED. THE GIVEN ROWS OF THIS SEAT. 5 by the template 'for every input the law returns true; each argument reads behind the call as it read before'; 0 by the template 'total and deterministic' (their statements: YtgmibjhbneggeaaTotals.lean).
  GIVEN WITH THE SEED: the statements are not yours to turn. If you find one false, say at which input.
  Laid BY PROGRAM, IN A SANDBOX (cutbox-rows.mjs): the forced cells as the released guide's own fill.sh prints them over the translation 41420f886e271179… (all of the seat's roots in one cut). By AI agents, Wed Nov 11 2026. No macro, syntax, notation, axiom, sorry.
-/
import Derived.Test.YtgmibjhbneggeaaChecked
import GoSem.Claim
import GoSem.ClaimJoined
import GoSem.ClaimMapViews
import Derived.JoinedTies
import Derived.KernelRfl
namespace Go.Proofs.Ytgmibjhbneggeaa
/- THE CELL 'sum', in the pinned program and in every row, IS THE sha256 OF THE DUMP (.gsa) THAT YtgmibjhbneggeaaProg.lean LOADS. Nothing in Lean hashes anything: it is a label: what it is worth is what the hold of that sum in a sandbox is worth. -/
noncomputable def Try.pinned : Pinned := { name := "ytgmibjhbneggeaa", sum := "41420f886e2711793c9fabf0745989f6f467def39edc574762e1ec8d3f97c243", checked := Try.checked }
namespace Rows
def none {H : Type} : Left H := { results := [], args := [] }

/-- 'firebreaklaw16.ScriptNames': WHATEVER THE INPUT: true; the input reads as it did. -/
def scriptNamesSpec : ChangeSpec := { name := "scriptNames", fn := fun _ => fun
  | [] => { results := [.lit (.bool true)], args := [] }
  | _ => none }
def scriptNamesRow : OpenClaim := { program := "ytgmibjhbneggeaa", sum := "41420f886e2711793c9fabf0745989f6f467def39edc574762e1ec8d3f97c243", func := "firebreak/firebreaklaw16.ScriptNames", spec := "scriptNames", apart := false }
def ScriptNamesSaid : Prop := scriptNamesRow.holds Try.pinned (OpenSpec.ofChange scriptNamesSpec)

/-- ITS FALSE NEIGHBOUR: 'it returns false'. Refute it at one input. -/
def scriptNamesWrong : ChangeSpec := { name := "scriptNames", fn := fun _ => fun
  | [] => { results := [.lit (.bool false)], args := [] }
  | _ => none }
def ScriptNamesWrongFalsely : Prop := scriptNamesRow.holds Try.pinned (OpenSpec.ofChange scriptNamesWrong)

/-- 'firebreaklaw16.ScriptMays': WHATEVER THE INPUT: true; the input reads as it did. -/
def scriptMaysSpec : ChangeSpec := { name := "scriptMays", fn := fun _ => fun
  | [d] => { results := [.lit (.bool true)], args := [d] }
  | _ => none }
def scriptMaysRow : OpenClaim := { program := "ytgmibjhbneggeaa", sum := "41420f886e2711793c9fabf0745989f6f467def39edc574762e1ec8d3f97c243", func := "firebreak/firebreaklaw16.ScriptMays", spec := "scriptMays", apart := false }
def ScriptMaysSaid : Prop := scriptMaysRow.holds Try.pinned (OpenSpec.ofChange scriptMaysSpec)

/-- ITS FALSE NEIGHBOUR: 'it returns false'. Refute it at one input. -/
def scriptMaysWrong : ChangeSpec := { name := "scriptMays", fn := fun _ => fun
  | [d] => { results := [.lit (.bool false)], args := [d] }
  | _ => none }
def ScriptMaysWrongFalsely : Prop := scriptMaysRow.holds Try.pinned (OpenSpec.ofChange scriptMaysWrong)

/-- 'firebreaklaw16.ScriptReads': WHATEVER THE INPUT: true; the input reads as it did. -/
def scriptReadsSpec : ChangeSpec := { name := "scriptReads", fn := fun _ => fun
  | [d] => { results := [.lit (.bool true)], args := [d] }
  | _ => none }
def scriptReadsRow : OpenClaim := { program := "ytgmibjhbneggeaa", sum := "41420f886e2711793c9fabf0745989f6f467def39edc574762e1ec8d3f97c243", func := "firebreak/firebreaklaw16.ScriptReads", spec := "scriptReads", apart := false }
def ScriptReadsSaid : Prop := scriptReadsRow.holds Try.pinned (OpenSpec.ofChange scriptReadsSpec)

/-- ITS FALSE NEIGHBOUR: 'it returns false'. Refute it at one input. -/
def scriptReadsWrong : ChangeSpec := { name := "scriptReads", fn := fun _ => fun
  | [d] => { results := [.lit (.bool false)], args := [d] }
  | _ => none }
def ScriptReadsWrongFalsely : Prop := scriptReadsRow.holds Try.pinned (OpenSpec.ofChange scriptReadsWrong)

/-- 'firebreaklaw16.ScriptReturns': WHATEVER THE INPUT: true; the input reads as it did. -/
def scriptReturnsSpec : ChangeSpec := { name := "scriptReturns", fn := fun _ => fun
  | [d1, d2, d3] => { results := [.lit (.bool true)], args := [d1, d2, d3] }
  | _ => none }
def scriptReturnsRow : OpenClaim := { program := "ytgmibjhbneggeaa", sum := "41420f886e2711793c9fabf0745989f6f467def39edc574762e1ec8d3f97c243", func := "firebreak/firebreaklaw16.ScriptReturns", spec := "scriptReturns", apart := false }
def ScriptReturnsSaid : Prop := scriptReturnsRow.holds Try.pinned (OpenSpec.ofChange scriptReturnsSpec)

/-- ITS FALSE NEIGHBOUR: 'it returns false'. Refute it at one input. -/
def scriptReturnsWrong : ChangeSpec := { name := "scriptReturns", fn := fun _ => fun
  | [d1, d2, d3] => { results := [.lit (.bool false)], args := [d1, d2, d3] }
  | _ => none }
def ScriptReturnsWrongFalsely : Prop := scriptReturnsRow.holds Try.pinned (OpenSpec.ofChange scriptReturnsWrong)

/-- 'firebreaklaw16.ScriptKeeps': WHATEVER THE INPUT: true; the input reads as it did. -/
def scriptKeepsSpec : ChangeSpec := { name := "scriptKeeps", fn := fun _ => fun
  | [d1, d2] => { results := [.lit (.bool true)], args := [d1, d2] }
  | _ => none }
def scriptKeepsRow : OpenClaim := { program := "ytgmibjhbneggeaa", sum := "41420f886e2711793c9fabf0745989f6f467def39edc574762e1ec8d3f97c243", func := "firebreak/firebreaklaw16.ScriptKeeps", spec := "scriptKeeps", apart := false }
def ScriptKeepsSaid : Prop := scriptKeepsRow.holds Try.pinned (OpenSpec.ofChange scriptKeepsSpec)

/-- ITS FALSE NEIGHBOUR: 'it returns false'. Refute it at one input. -/
def scriptKeepsWrong : ChangeSpec := { name := "scriptKeeps", fn := fun _ => fun
  | [d1, d2] => { results := [.lit (.bool false)], args := [d1, d2] }
  | _ => none }
def ScriptKeepsWrongFalsely : Prop := scriptKeepsRow.holds Try.pinned (OpenSpec.ofChange scriptKeepsWrong)

/- THE SECOND FORM. 'bulk': how many values and letters a reading holds, each counted each time it is reached (what is shared counts as often as it is met; a slice's spare places count too). A statement '..UptoSaid' is the law's where the arguments, and the package variables that the reading takes, are together of bulk at most 1048576: NARROWER than '..Said'. Prove '..Said' where nothing that the law and all that it calls make is longer than what came in: it says more and counts as full. Else prove '..UptoSaid'. A law counts once. -/
mutual
def uptoBulk {H : Type} : DataW H → Nat
  | .lit (.string bytes) => bytes.length + 1
  | .lit _ => 1
  | .nil => 1
  | .ptr d => uptoBulk d + 1
  | .slice elems spare => uptoBulkAll elems + uptoBulkAll spare + 1
  | .agg parts => uptoBulkAll parts + 1
  | .iface _ d => uptoBulk d + 1
  | .map entries => uptoBulkEntries entries + 1
  | .held _ => 1
def uptoBulkAll {H : Type} : List (DataW H) → Nat
  | [] => 0
  | d :: r => uptoBulk d + uptoBulkAll r
def uptoBulkEntries {H : Type} : List (Lit × DataW H) → Nat
  | [] => 0
  | x :: r => uptoBulkEntry x + uptoBulkEntries r
def uptoBulkEntry {H : Type} : Lit × DataW H → Nat
  | (.string bytes, d) => bytes.length + uptoBulk d + 1
  | (_, d) => uptoBulk d + 1
 end
def uptoSmall : (H : Type) → List (DataW H) → Bool := fun _ ds => decide (uptoBulkAll ds ≤ 1048576)
def OpenSpec.upto (s : _root_.Go.ChangeSpec) : _root_.Go.OpenSpec := { _root_.Go.OpenSpec.ofChange s with cond := some uptoSmall }

/-- 'firebreaklaw16.ScriptNames', WHERE WHAT IT READS IS OF BULK AT MOST 1048576: true; the input reads as it did. -/
def scriptNamesUptoRow : OpenClaim := { program := "ytgmibjhbneggeaa", sum := "41420f886e2711793c9fabf0745989f6f467def39edc574762e1ec8d3f97c243", func := "firebreak/firebreaklaw16.ScriptNames", spec := "scriptNames", apart := false, narrowed := true }
def ScriptNamesUptoSaid : Prop := scriptNamesUptoRow.holds Try.pinned (OpenSpec.upto scriptNamesSpec)

/-- 'firebreaklaw16.ScriptMays', WHERE WHAT IT READS IS OF BULK AT MOST 1048576: true; the input reads as it did. -/
def scriptMaysUptoRow : OpenClaim := { program := "ytgmibjhbneggeaa", sum := "41420f886e2711793c9fabf0745989f6f467def39edc574762e1ec8d3f97c243", func := "firebreak/firebreaklaw16.ScriptMays", spec := "scriptMays", apart := false, narrowed := true }
def ScriptMaysUptoSaid : Prop := scriptMaysUptoRow.holds Try.pinned (OpenSpec.upto scriptMaysSpec)

/-- 'firebreaklaw16.ScriptReads', WHERE WHAT IT READS IS OF BULK AT MOST 1048576: true; the input reads as it did. -/
def scriptReadsUptoRow : OpenClaim := { program := "ytgmibjhbneggeaa", sum := "41420f886e2711793c9fabf0745989f6f467def39edc574762e1ec8d3f97c243", func := "firebreak/firebreaklaw16.ScriptReads", spec := "scriptReads", apart := false, narrowed := true }
def ScriptReadsUptoSaid : Prop := scriptReadsUptoRow.holds Try.pinned (OpenSpec.upto scriptReadsSpec)

/-- 'firebreaklaw16.ScriptReturns', WHERE WHAT IT READS IS OF BULK AT MOST 1048576: true; the input reads as it did. -/
def scriptReturnsUptoRow : OpenClaim := { program := "ytgmibjhbneggeaa", sum := "41420f886e2711793c9fabf0745989f6f467def39edc574762e1ec8d3f97c243", func := "firebreak/firebreaklaw16.ScriptReturns", spec := "scriptReturns", apart := false, narrowed := true }
def ScriptReturnsUptoSaid : Prop := scriptReturnsUptoRow.holds Try.pinned (OpenSpec.upto scriptReturnsSpec)

/-- 'firebreaklaw16.ScriptKeeps', WHERE WHAT IT READS IS OF BULK AT MOST 1048576: true; the input reads as it did. -/
def scriptKeepsUptoRow : OpenClaim := { program := "ytgmibjhbneggeaa", sum := "41420f886e2711793c9fabf0745989f6f467def39edc574762e1ec8d3f97c243", func := "firebreak/firebreaklaw16.ScriptKeeps", spec := "scriptKeeps", apart := false, narrowed := true }
def ScriptKeepsUptoSaid : Prop := scriptKeepsUptoRow.holds Try.pinned (OpenSpec.upto scriptKeepsSpec)

end Rows
end Go.Proofs.Ytgmibjhbneggeaa
