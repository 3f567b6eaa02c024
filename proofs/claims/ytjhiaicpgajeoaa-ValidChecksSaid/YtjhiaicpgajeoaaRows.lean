/-
  No cell of these rows narrows 'for every input' (looked for: loops, veiled, ifaces, maps, wideKeys, modest, calm, conditions, laid).
  DERIVED. THE GIVEN ROWS OF THIS SEAT. 4 by the template 'for every input the law returns true; each argument reads behind the call as it read before'; 0 by the template 'total and deterministic' (their statements: YtjhiaicpgajeoaaTotals.lean).
  GIVEN WITH THE SEED: the statements are not yours to turn. If you find one false, say at which input.
  Laid BY PROGRAM, IN A SANDBOX (cutbox-rows.mjs): the forced cells as the released guide's own fill.sh prints them over the translation 7c18cc5384756466… (all of the seat's roots in one cut). By AI agents, Wed Nov 11 2026. No macro, syntax, notation, axiom, sorry.
-/
import Derived.Test.YtjhiaicpgajeoaaChecked
import GoSem.Claim
import GoSem.ClaimJoined
import GoSem.ClaimMapViews
import Derived.JoinedTies
import Derived.KernelRfl
namespace Go.Proofs.Ytjhiaicpgajeoaa
/- THE CELL 'sum', in the pinned program and in every row, IS THE sha256 OF THE DUMP (.gsa) THAT YtjhiaicpgajeoaaProg.lean LOADS. Nothing in Lean hashes anything: it is a label: what it is worth is what the hold of that sum in a sandbox is worth. -/
noncomputable def Try.pinned : Pinned := { name := "ytjhiaicpgajeoaa", sum := "7c18cc5384756466d55d5e3054f6524db5d81f7b59f553b257ddb044ebfcd66f", checked := Try.checked }
namespace Rows
def none {H : Type} : Left H := { results := [], args := [] }

/-- 'firebreaklaw08.ValidNames': WHATEVER THE INPUT: true; the input reads as it did. -/
def validNamesSpec : ChangeSpec := { name := "validNames", fn := fun _ => fun
  | [] => { results := [.lit (.bool true)], args := [] }
  | _ => none }
def validNamesRow : OpenClaim := { program := "ytjhiaicpgajeoaa", sum := "7c18cc5384756466d55d5e3054f6524db5d81f7b59f553b257ddb044ebfcd66f", func := "firebreak/firebreaklaw08.ValidNames", spec := "validNames", inPlace := ["internal/bytealg.IndexByteString", "internal/bytealg.IndexString"], unfollowed := true, recurses := true, named := ["internal/bytealg.MaxLen"], plainKeys := false, apart := false }
def ValidNamesSaid : Prop := validNamesRow.holds Try.pinned (OpenSpec.ofChange validNamesSpec)

/-- ITS FALSE NEIGHBOUR: 'it returns false'. Refute it at one input. -/
def validNamesWrong : ChangeSpec := { name := "validNames", fn := fun _ => fun
  | [] => { results := [.lit (.bool false)], args := [] }
  | _ => none }
def ValidNamesWrongFalsely : Prop := validNamesRow.holds Try.pinned (OpenSpec.ofChange validNamesWrong)

/-- 'firebreaklaw08.ValidChecks': WHATEVER THE INPUT: true; the input reads as it did. -/
def validChecksSpec : ChangeSpec := { name := "validChecks", fn := fun _ => fun
  | [d1, d2, d3] => { results := [.lit (.bool true)], args := [d1, d2, d3] }
  | _ => none }
def validChecksRow : OpenClaim := { program := "ytjhiaicpgajeoaa", sum := "7c18cc5384756466d55d5e3054f6524db5d81f7b59f553b257ddb044ebfcd66f", func := "firebreak/firebreaklaw08.ValidChecks", spec := "validChecks", inPlace := ["internal/bytealg.IndexByteString", "internal/bytealg.IndexString"], unfollowed := true, recurses := true, named := ["internal/bytealg.MaxLen"], plainKeys := false, apart := false }
def ValidChecksSaid : Prop := validChecksRow.holds Try.pinned (OpenSpec.ofChange validChecksSpec)

/-- ITS FALSE NEIGHBOUR: 'it returns false'. Refute it at one input. -/
def validChecksWrong : ChangeSpec := { name := "validChecks", fn := fun _ => fun
  | [d1, d2, d3] => { results := [.lit (.bool false)], args := [d1, d2, d3] }
  | _ => none }
def ValidChecksWrongFalsely : Prop := validChecksRow.holds Try.pinned (OpenSpec.ofChange validChecksWrong)

/-- 'firebreaklaw08.ValidRuns': WHATEVER THE INPUT: true; the input reads as it did. -/
def validRunsSpec : ChangeSpec := { name := "validRuns", fn := fun _ => fun
  | [d] => { results := [.lit (.bool true)], args := [d] }
  | _ => none }
def validRunsRow : OpenClaim := { program := "ytjhiaicpgajeoaa", sum := "7c18cc5384756466d55d5e3054f6524db5d81f7b59f553b257ddb044ebfcd66f", func := "firebreak/firebreaklaw08.ValidRuns", spec := "validRuns", inPlace := ["internal/bytealg.IndexByteString", "internal/bytealg.IndexString"], unfollowed := true, recurses := true, named := ["internal/bytealg.MaxLen"], plainKeys := false, apart := false }
def ValidRunsSaid : Prop := validRunsRow.holds Try.pinned (OpenSpec.ofChange validRunsSpec)

/-- ITS FALSE NEIGHBOUR: 'it returns false'. Refute it at one input. -/
def validRunsWrong : ChangeSpec := { name := "validRuns", fn := fun _ => fun
  | [d] => { results := [.lit (.bool false)], args := [d] }
  | _ => none }
def ValidRunsWrongFalsely : Prop := validRunsRow.holds Try.pinned (OpenSpec.ofChange validRunsWrong)

/-- 'firebreaklaw08.ValidTight': WHATEVER THE INPUT: true; the input reads as it did. -/
def validTightSpec : ChangeSpec := { name := "validTight", fn := fun _ => fun
  | [d1, d2] => { results := [.lit (.bool true)], args := [d1, d2] }
  | _ => none }
def validTightRow : OpenClaim := { program := "ytjhiaicpgajeoaa", sum := "7c18cc5384756466d55d5e3054f6524db5d81f7b59f553b257ddb044ebfcd66f", func := "firebreak/firebreaklaw08.ValidTight", spec := "validTight", inPlace := ["internal/bytealg.IndexByteString", "internal/bytealg.IndexString"], unfollowed := true, recurses := true, named := ["internal/bytealg.MaxLen"], plainKeys := false, apart := false }
def ValidTightSaid : Prop := validTightRow.holds Try.pinned (OpenSpec.ofChange validTightSpec)

/-- ITS FALSE NEIGHBOUR: 'it returns false'. Refute it at one input. -/
def validTightWrong : ChangeSpec := { name := "validTight", fn := fun _ => fun
  | [d1, d2] => { results := [.lit (.bool false)], args := [d1, d2] }
  | _ => none }
def ValidTightWrongFalsely : Prop := validTightRow.holds Try.pinned (OpenSpec.ofChange validTightWrong)

/- THE SECOND FORM. 'bulk': how many values and letters a reading holds, each counted each time it is reached (what is shared counts as often as it is met; a slice's spare places count too). A statement '..UptoSaid' is the law's where the arguments, and the package variables that the reading takes, are together of bulk at most 1048576: NARROWER than '..Said'. Prove '..Said' where nothing that the law and all that it calls make is longer than what came in: it says more and counts as full. Else prove '..UptoSaid'. A law counts once. -/
mutual
def uptoBulk {H : Type} : DataW H → Nat
  | .lit (.string bytes) => bytes.length + 1
  | .lit _ => 1
  | .nil => 1
  | .ptr d => uptoBulk d + 1
  | .slice elems spare => uptoBulkAll elems + uptoBulkAll spare + 1
  | .agg parts => uptoBulkAll parts + 1
  | .iface _ d => uptoBulk d + 1
  | .map entries => uptoBulkEntries entries + 1
  | .held _ => 1
def uptoBulkAll {H : Type} : List (DataW H) → Nat
  | [] => 0
  | d :: r => uptoBulk d + uptoBulkAll r
def uptoBulkEntries {H : Type} : List (Lit × DataW H) → Nat
  | [] => 0
  | x :: r => uptoBulkEntry x + uptoBulkEntries r
def uptoBulkEntry {H : Type} : Lit × DataW H → Nat
  | (.string bytes, d) => bytes.length + uptoBulk d + 1
  | (_, d) => uptoBulk d + 1
 end
def uptoSmall : (H : Type) → List (DataW H) → Bool := fun _ ds => decide (uptoBulkAll ds ≤ 1048576)
def OpenSpec.upto (s : _root_.Go.ChangeSpec) : _root_.Go.OpenSpec := { _root_.Go.OpenSpec.ofChange s with cond := some uptoSmall }

/-- 'firebreaklaw08.ValidNames', WHERE WHAT IT READS IS OF BULK AT MOST 1048576: true; the input reads as it did. -/
def validNamesUptoRow : OpenClaim := { program := "ytjhiaicpgajeoaa", sum := "7c18cc5384756466d55d5e3054f6524db5d81f7b59f553b257ddb044ebfcd66f", func := "firebreak/firebreaklaw08.ValidNames", spec := "validNames", inPlace := ["internal/bytealg.IndexByteString", "internal/bytealg.IndexString"], unfollowed := true, recurses := true, named := ["internal/bytealg.MaxLen"], plainKeys := false, apart := false, narrowed := true }
def ValidNamesUptoSaid : Prop := validNamesUptoRow.holds Try.pinned (OpenSpec.upto validNamesSpec)

/-- 'firebreaklaw08.ValidChecks', WHERE WHAT IT READS IS OF BULK AT MOST 1048576: true; the input reads as it did. -/
def validChecksUptoRow : OpenClaim := { program := "ytjhiaicpgajeoaa", sum := "7c18cc5384756466d55d5e3054f6524db5d81f7b59f553b257ddb044ebfcd66f", func := "firebreak/firebreaklaw08.ValidChecks", spec := "validChecks", inPlace := ["internal/bytealg.IndexByteString", "internal/bytealg.IndexString"], unfollowed := true, recurses := true, named := ["internal/bytealg.MaxLen"], plainKeys := false, apart := false, narrowed := true }
def ValidChecksUptoSaid : Prop := validChecksUptoRow.holds Try.pinned (OpenSpec.upto validChecksSpec)

/-- 'firebreaklaw08.ValidRuns', WHERE WHAT IT READS IS OF BULK AT MOST 1048576: true; the input reads as it did. -/
def validRunsUptoRow : OpenClaim := { program := "ytjhiaicpgajeoaa", sum := "7c18cc5384756466d55d5e3054f6524db5d81f7b59f553b257ddb044ebfcd66f", func := "firebreak/firebreaklaw08.ValidRuns", spec := "validRuns", inPlace := ["internal/bytealg.IndexByteString", "internal/bytealg.IndexString"], unfollowed := true, recurses := true, named := ["internal/bytealg.MaxLen"], plainKeys := false, apart := false, narrowed := true }
def ValidRunsUptoSaid : Prop := validRunsUptoRow.holds Try.pinned (OpenSpec.upto validRunsSpec)

/-- 'firebreaklaw08.ValidTight', WHERE WHAT IT READS IS OF BULK AT MOST 1048576: true; the input reads as it did. -/
def validTightUptoRow : OpenClaim := { program := "ytjhiaicpgajeoaa", sum := "7c18cc5384756466d55d5e3054f6524db5d81f7b59f553b257ddb044ebfcd66f", func := "firebreak/firebreaklaw08.ValidTight", spec := "validTight", inPlace := ["internal/bytealg.IndexByteString", "internal/bytealg.IndexString"], unfollowed := true, recurses := true, named := ["internal/bytealg.MaxLen"], plainKeys := false, apart := false, narrowed := true }
def ValidTightUptoSaid : Prop := validTightUptoRow.holds Try.pinned (OpenSpec.upto validTightSpec)

end Rows
end Go.Proofs.Ytjhiaicpgajeoaa
