/-
  No cell of these rows narrows 'for every input' (looked for: loops, veiled, ifaces, maps, wideKeys, modest, calm, conditions, laid).
  DERIVED. THE GIVEN ROWS OF THIS SEAT. 4 by the template 'for every input the law returns true; each argument reads behind the call as it read before'; 0 by the template 'total and deterministic' (their statements: YtjjlemkmdldljaaTotals.lean).
  GIVEN WITH THE SEED: the statements are not yours to turn. If you find one false, say at which input.
  Laid BY PROGRAM, IN A SANDBOX (cutbox-rows.mjs): the forced cells as the released guide's own fill.sh prints them over the translation 44f6035bf3d02b07… (all of the seat's roots in one cut). By AI agents, Wed Nov 11 2026. No macro, syntax, notation, axiom, sorry.
-/
import Derived.Test.YtjjlemkmdldljaaChecked
import GoSem.Claim
import GoSem.ClaimJoined
import GoSem.ClaimMapViews
import Derived.JoinedTies
import Derived.KernelRfl
namespace Go.Proofs.Ytjjlemkmdldljaa
/- THE CELL 'sum', in the pinned program and in every row, IS THE sha256 OF THE DUMP (.gsa) THAT YtjjlemkmdldljaaProg.lean LOADS. Nothing in Lean hashes anything: it is a label: what it is worth is what the hold of that sum in a sandbox is worth. -/
noncomputable def Try.pinned : Pinned := { name := "ytjjlemkmdldljaa", sum := "44f6035bf3d02b07ad365ecec9b3a047471cd539e4ff1d12195eb85c4622f4b5", checked := Try.checked }
namespace Rows
def none {H : Type} : Left H := { results := [], args := [] }

/-- 'firebreaklaw12.LocksNames': WHATEVER THE INPUT: true; the input reads as it did. -/
def locksNamesSpec : ChangeSpec := { name := "locksNames", fn := fun _ => fun
  | [] => { results := [.lit (.bool true)], args := [] }
  | _ => none }
def locksNamesRow : OpenClaim := { program := "ytjjlemkmdldljaa", sum := "44f6035bf3d02b07ad365ecec9b3a047471cd539e4ff1d12195eb85c4622f4b5", func := "firebreak/firebreaklaw12.LocksNames", spec := "locksNames", apart := false }
def LocksNamesSaid : Prop := locksNamesRow.holds Try.pinned (OpenSpec.ofChange locksNamesSpec)

/-- ITS FALSE NEIGHBOUR: 'it returns false'. Refute it at one input. -/
def locksNamesWrong : ChangeSpec := { name := "locksNames", fn := fun _ => fun
  | [] => { results := [.lit (.bool false)], args := [] }
  | _ => none }
def LocksNamesWrongFalsely : Prop := locksNamesRow.holds Try.pinned (OpenSpec.ofChange locksNamesWrong)

/-- 'firebreaklaw12.LocksTurns': WHATEVER THE INPUT: true; the input reads as it did. -/
def locksTurnsSpec : ChangeSpec := { name := "locksTurns", fn := fun _ => fun
  | [d1, d2] => { results := [.lit (.bool true)], args := [d1, d2] }
  | _ => none }
def locksTurnsRow : OpenClaim := { program := "ytjjlemkmdldljaa", sum := "44f6035bf3d02b07ad365ecec9b3a047471cd539e4ff1d12195eb85c4622f4b5", func := "firebreak/firebreaklaw12.LocksTurns", spec := "locksTurns", apart := false }
def LocksTurnsSaid : Prop := locksTurnsRow.holds Try.pinned (OpenSpec.ofChange locksTurnsSpec)

/-- ITS FALSE NEIGHBOUR: 'it returns false'. Refute it at one input. -/
def locksTurnsWrong : ChangeSpec := { name := "locksTurns", fn := fun _ => fun
  | [d1, d2] => { results := [.lit (.bool false)], args := [d1, d2] }
  | _ => none }
def LocksTurnsWrongFalsely : Prop := locksTurnsRow.holds Try.pinned (OpenSpec.ofChange locksTurnsWrong)

/-- 'firebreaklaw12.LocksRise': WHATEVER THE INPUT: true; the input reads as it did. -/
def locksRiseSpec : ChangeSpec := { name := "locksRise", fn := fun _ => fun
  | [d1, d2] => { results := [.lit (.bool true)], args := [d1, d2] }
  | _ => none }
def locksRiseRow : OpenClaim := { program := "ytjjlemkmdldljaa", sum := "44f6035bf3d02b07ad365ecec9b3a047471cd539e4ff1d12195eb85c4622f4b5", func := "firebreak/firebreaklaw12.LocksRise", spec := "locksRise", apart := false }
def LocksRiseSaid : Prop := locksRiseRow.holds Try.pinned (OpenSpec.ofChange locksRiseSpec)

/-- ITS FALSE NEIGHBOUR: 'it returns false'. Refute it at one input. -/
def locksRiseWrong : ChangeSpec := { name := "locksRise", fn := fun _ => fun
  | [d1, d2] => { results := [.lit (.bool false)], args := [d1, d2] }
  | _ => none }
def LocksRiseWrongFalsely : Prop := locksRiseRow.holds Try.pinned (OpenSpec.ofChange locksRiseWrong)

/-- 'firebreaklaw12.LocksLay': WHATEVER THE INPUT: true; the input reads as it did. -/
def locksLaySpec : ChangeSpec := { name := "locksLay", fn := fun _ => fun
  | [d1, d2, d3] => { results := [.lit (.bool true)], args := [d1, d2, d3] }
  | _ => none }
def locksLayRow : OpenClaim := { program := "ytjjlemkmdldljaa", sum := "44f6035bf3d02b07ad365ecec9b3a047471cd539e4ff1d12195eb85c4622f4b5", func := "firebreak/firebreaklaw12.LocksLay", spec := "locksLay", apart := false }
def LocksLaySaid : Prop := locksLayRow.holds Try.pinned (OpenSpec.ofChange locksLaySpec)

/-- ITS FALSE NEIGHBOUR: 'it returns false'. Refute it at one input. -/
def locksLayWrong : ChangeSpec := { name := "locksLay", fn := fun _ => fun
  | [d1, d2, d3] => { results := [.lit (.bool false)], args := [d1, d2, d3] }
  | _ => none }
def LocksLayWrongFalsely : Prop := locksLayRow.holds Try.pinned (OpenSpec.ofChange locksLayWrong)

/- THE SECOND FORM. 'bulk': how many values and letters a reading holds, each counted each time it is reached (what is shared counts as often as it is met; a slice's spare places count too). A statement '..UptoSaid' is the law's where the arguments, and the package variables that the reading takes, are together of bulk at most 1048576: NARROWER than '..Said'. Prove '..Said' where nothing that the law and all that it calls make is longer than what came in: it says more and counts as full. Else prove '..UptoSaid'. A law counts once. -/
mutual
def uptoBulk {H : Type} : DataW H → Nat
  | .lit (.string bytes) => bytes.length + 1
  | .lit _ => 1
  | .nil => 1
  | .ptr d => uptoBulk d + 1
  | .slice elems spare => uptoBulkAll elems + uptoBulkAll spare + 1
  | .agg parts => uptoBulkAll parts + 1
  | .iface _ d => uptoBulk d + 1
  | .map entries => uptoBulkEntries entries + 1
  | .held _ => 1
def uptoBulkAll {H : Type} : List (DataW H) → Nat
  | [] => 0
  | d :: r => uptoBulk d + uptoBulkAll r
def uptoBulkEntries {H : Type} : List (Lit × DataW H) → Nat
  | [] => 0
  | x :: r => uptoBulkEntry x + uptoBulkEntries r
def uptoBulkEntry {H : Type} : Lit × DataW H → Nat
  | (.string bytes, d) => bytes.length + uptoBulk d + 1
  | (_, d) => uptoBulk d + 1
 end
def uptoSmall : (H : Type) → List (DataW H) → Bool := fun _ ds => decide (uptoBulkAll ds ≤ 1048576)
def OpenSpec.upto (s : _root_.Go.ChangeSpec) : _root_.Go.OpenSpec := { _root_.Go.OpenSpec.ofChange s with cond := some uptoSmall }

/-- 'firebreaklaw12.LocksNames', WHERE WHAT IT READS IS OF BULK AT MOST 1048576: true; the input reads as it did. -/
def locksNamesUptoRow : OpenClaim := { program := "ytjjlemkmdldljaa", sum := "44f6035bf3d02b07ad365ecec9b3a047471cd539e4ff1d12195eb85c4622f4b5", func := "firebreak/firebreaklaw12.LocksNames", spec := "locksNames", apart := false, narrowed := true }
def LocksNamesUptoSaid : Prop := locksNamesUptoRow.holds Try.pinned (OpenSpec.upto locksNamesSpec)

/-- 'firebreaklaw12.LocksTurns', WHERE WHAT IT READS IS OF BULK AT MOST 1048576: true; the input reads as it did. -/
def locksTurnsUptoRow : OpenClaim := { program := "ytjjlemkmdldljaa", sum := "44f6035bf3d02b07ad365ecec9b3a047471cd539e4ff1d12195eb85c4622f4b5", func := "firebreak/firebreaklaw12.LocksTurns", spec := "locksTurns", apart := false, narrowed := true }
def LocksTurnsUptoSaid : Prop := locksTurnsUptoRow.holds Try.pinned (OpenSpec.upto locksTurnsSpec)

/-- 'firebreaklaw12.LocksRise', WHERE WHAT IT READS IS OF BULK AT MOST 1048576: true; the input reads as it did. -/
def locksRiseUptoRow : OpenClaim := { program := "ytjjlemkmdldljaa", sum := "44f6035bf3d02b07ad365ecec9b3a047471cd539e4ff1d12195eb85c4622f4b5", func := "firebreak/firebreaklaw12.LocksRise", spec := "locksRise", apart := false, narrowed := true }
def LocksRiseUptoSaid : Prop := locksRiseUptoRow.holds Try.pinned (OpenSpec.upto locksRiseSpec)

/-- 'firebreaklaw12.LocksLay', WHERE WHAT IT READS IS OF BULK AT MOST 1048576: true; the input reads as it did. -/
def locksLayUptoRow : OpenClaim := { program := "ytjjlemkmdldljaa", sum := "44f6035bf3d02b07ad365ecec9b3a047471cd539e4ff1d12195eb85c4622f4b5", func := "firebreak/firebreaklaw12.LocksLay", spec := "locksLay", apart := false, narrowed := true }
def LocksLayUptoSaid : Prop := locksLayUptoRow.holds Try.pinned (OpenSpec.upto locksLaySpec)

end Rows
end Go.Proofs.Ytjjlemkmdldljaa
