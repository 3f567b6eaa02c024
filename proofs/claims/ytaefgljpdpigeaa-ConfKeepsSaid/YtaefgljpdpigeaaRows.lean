/-
  No cell of these rows narrows 'for every input' (looked for: loops, veiled, ifaces, maps, wideKeys, modest, calm, conditions, laid).
  DERIVED. THE GIVEN ROWS OF THIS SEAT. 6 by the template 'for every input the law returns true; each argument reads behind the call as it read before'; 0 by the template 'total and deterministic' (their statements: YtaefgljpdpigeaaTotals.lean).
  GIVEN WITH THE SEED: the statements are not yours to turn. If you find one false, say at which input.
  Laid BY PROGRAM, IN A SANDBOX (cutbox-rows.mjs): the forced cells as the released guide's own fill.sh prints them over the translation 8622cf2fd8122d99… (all of the seat's roots in one cut). By AI agents, Wed Nov 11 2026. No macro, syntax, notation, axiom, sorry.
-/
import Derived.Test.YtaefgljpdpigeaaChecked
import GoSem.Claim
import GoSem.ClaimJoined
import GoSem.ClaimMapViews
import Derived.JoinedTies
import Derived.KernelRfl
namespace Go.Proofs.Ytaefgljpdpigeaa
/- THE CELL 'sum', in the pinned program and in every row, IS THE sha256 OF THE DUMP (.gsa) THAT YtaefgljpdpigeaaProg.lean LOADS. Nothing in Lean hashes anything: it is a label: what it is worth is what the hold of that sum in a sandbox is worth. -/
noncomputable def Try.pinned : Pinned := { name := "ytaefgljpdpigeaa", sum := "8622cf2fd8122d99e577fc284e23bd576cdb7697930ff8bb06e1fd0e6808cb93", checked := Try.checked }
namespace Rows
def none {H : Type} : Left H := { results := [], args := [] }

/-- 'firebreaklaw14.ConfCut': WHATEVER THE INPUT: true; the input reads as it did. -/
def confCutSpec : ChangeSpec := { name := "confCut", fn := fun _ => fun
  | [d1, d2, d3, d4] => { results := [.lit (.bool true)], args := [d1, d2, d3, d4] }
  | _ => none }
def confCutRow : OpenClaim := { program := "ytaefgljpdpigeaa", sum := "8622cf2fd8122d99e577fc284e23bd576cdb7697930ff8bb06e1fd0e6808cb93", func := "firebreak/firebreaklaw14.ConfCut", spec := "confCut", inPlace := ["internal/bytealg.IndexByteString", "internal/bytealg.IndexString"], unfollowed := true, recurses := true, named := ["internal/bytealg.MaxLen"], apart := false }
def ConfCutSaid : Prop := confCutRow.holds Try.pinned (OpenSpec.ofChange confCutSpec)

/-- ITS FALSE NEIGHBOUR: 'it returns false'. Refute it at one input. -/
def confCutWrong : ChangeSpec := { name := "confCut", fn := fun _ => fun
  | [d1, d2, d3, d4] => { results := [.lit (.bool false)], args := [d1, d2, d3, d4] }
  | _ => none }
def ConfCutWrongFalsely : Prop := confCutRow.holds Try.pinned (OpenSpec.ofChange confCutWrong)

/-- 'firebreaklaw14.ConfKeeps': WHATEVER THE INPUT: true; the input reads as it did. -/
def confKeepsSpec : ChangeSpec := { name := "confKeeps", fn := fun _ => fun
  | [d1, d2] => { results := [.lit (.bool true)], args := [d1, d2] }
  | _ => none }
def confKeepsRow : OpenClaim := { program := "ytaefgljpdpigeaa", sum := "8622cf2fd8122d99e577fc284e23bd576cdb7697930ff8bb06e1fd0e6808cb93", func := "firebreak/firebreaklaw14.ConfKeeps", spec := "confKeeps", inPlace := ["internal/bytealg.IndexByteString", "internal/bytealg.IndexString"], unfollowed := true, recurses := true, named := ["internal/bytealg.MaxLen"], apart := false }
def ConfKeepsSaid : Prop := confKeepsRow.holds Try.pinned (OpenSpec.ofChange confKeepsSpec)

/-- ITS FALSE NEIGHBOUR: 'it returns false'. Refute it at one input. -/
def confKeepsWrong : ChangeSpec := { name := "confKeeps", fn := fun _ => fun
  | [d1, d2] => { results := [.lit (.bool false)], args := [d1, d2] }
  | _ => none }
def ConfKeepsWrongFalsely : Prop := confKeepsRow.holds Try.pinned (OpenSpec.ofChange confKeepsWrong)

/-- 'firebreaklaw14.ConfNames': WHATEVER THE INPUT: true; the input reads as it did. -/
def confNamesSpec : ChangeSpec := { name := "confNames", fn := fun _ => fun
  | [] => { results := [.lit (.bool true)], args := [] }
  | _ => none }
def confNamesRow : OpenClaim := { program := "ytaefgljpdpigeaa", sum := "8622cf2fd8122d99e577fc284e23bd576cdb7697930ff8bb06e1fd0e6808cb93", func := "firebreak/firebreaklaw14.ConfNames", spec := "confNames", inPlace := ["internal/bytealg.IndexByteString", "internal/bytealg.IndexString"], unfollowed := true, recurses := true, named := ["internal/bytealg.MaxLen"], apart := false }
def ConfNamesSaid : Prop := confNamesRow.holds Try.pinned (OpenSpec.ofChange confNamesSpec)

/-- ITS FALSE NEIGHBOUR: 'it returns false'. Refute it at one input. -/
def confNamesWrong : ChangeSpec := { name := "confNames", fn := fun _ => fun
  | [] => { results := [.lit (.bool false)], args := [] }
  | _ => none }
def ConfNamesWrongFalsely : Prop := confNamesRow.holds Try.pinned (OpenSpec.ofChange confNamesWrong)

/-- 'firebreaklaw14.ConfMays': WHATEVER THE INPUT: true; the input reads as it did. -/
def confMaysSpec : ChangeSpec := { name := "confMays", fn := fun _ => fun
  | [d1, d2] => { results := [.lit (.bool true)], args := [d1, d2] }
  | _ => none }
def confMaysRow : OpenClaim := { program := "ytaefgljpdpigeaa", sum := "8622cf2fd8122d99e577fc284e23bd576cdb7697930ff8bb06e1fd0e6808cb93", func := "firebreak/firebreaklaw14.ConfMays", spec := "confMays", inPlace := ["internal/bytealg.IndexByteString", "internal/bytealg.IndexString"], unfollowed := true, recurses := true, named := ["internal/bytealg.MaxLen"], apart := false }
def ConfMaysSaid : Prop := confMaysRow.holds Try.pinned (OpenSpec.ofChange confMaysSpec)

/-- ITS FALSE NEIGHBOUR: 'it returns false'. Refute it at one input. -/
def confMaysWrong : ChangeSpec := { name := "confMays", fn := fun _ => fun
  | [d1, d2] => { results := [.lit (.bool false)], args := [d1, d2] }
  | _ => none }
def ConfMaysWrongFalsely : Prop := confMaysRow.holds Try.pinned (OpenSpec.ofChange confMaysWrong)

/-- 'firebreaklaw14.ConfReads': WHATEVER THE INPUT: true; the input reads as it did. -/
def confReadsSpec : ChangeSpec := { name := "confReads", fn := fun _ => fun
  | [d] => { results := [.lit (.bool true)], args := [d] }
  | _ => none }
def confReadsRow : OpenClaim := { program := "ytaefgljpdpigeaa", sum := "8622cf2fd8122d99e577fc284e23bd576cdb7697930ff8bb06e1fd0e6808cb93", func := "firebreak/firebreaklaw14.ConfReads", spec := "confReads", inPlace := ["internal/bytealg.IndexByteString", "internal/bytealg.IndexString"], unfollowed := true, recurses := true, named := ["internal/bytealg.MaxLen"], apart := false }
def ConfReadsSaid : Prop := confReadsRow.holds Try.pinned (OpenSpec.ofChange confReadsSpec)

/-- ITS FALSE NEIGHBOUR: 'it returns false'. Refute it at one input. -/
def confReadsWrong : ChangeSpec := { name := "confReads", fn := fun _ => fun
  | [d] => { results := [.lit (.bool false)], args := [d] }
  | _ => none }
def ConfReadsWrongFalsely : Prop := confReadsRow.holds Try.pinned (OpenSpec.ofChange confReadsWrong)

/-- 'firebreaklaw14.ConfReturns': WHATEVER THE INPUT: true; the input reads as it did. -/
def confReturnsSpec : ChangeSpec := { name := "confReturns", fn := fun _ => fun
  | [d1, d2] => { results := [.lit (.bool true)], args := [d1, d2] }
  | _ => none }
def confReturnsRow : OpenClaim := { program := "ytaefgljpdpigeaa", sum := "8622cf2fd8122d99e577fc284e23bd576cdb7697930ff8bb06e1fd0e6808cb93", func := "firebreak/firebreaklaw14.ConfReturns", spec := "confReturns", inPlace := ["internal/bytealg.IndexByteString", "internal/bytealg.IndexString"], unfollowed := true, recurses := true, named := ["internal/bytealg.MaxLen"], apart := false }
def ConfReturnsSaid : Prop := confReturnsRow.holds Try.pinned (OpenSpec.ofChange confReturnsSpec)

/-- ITS FALSE NEIGHBOUR: 'it returns false'. Refute it at one input. -/
def confReturnsWrong : ChangeSpec := { name := "confReturns", fn := fun _ => fun
  | [d1, d2] => { results := [.lit (.bool false)], args := [d1, d2] }
  | _ => none }
def ConfReturnsWrongFalsely : Prop := confReturnsRow.holds Try.pinned (OpenSpec.ofChange confReturnsWrong)

/- THE SECOND FORM. 'bulk': how many values and letters a reading holds, each counted each time it is reached (what is shared counts as often as it is met; a slice's spare places count too). A statement '..UptoSaid' is the law's where the arguments, and the package variables that the reading takes, are together of bulk at most 1048576: NARROWER than '..Said'. Prove '..Said' where nothing that the law and all that it calls make is longer than what came in: it says more and counts as full. Else prove '..UptoSaid'. A law counts once. -/
mutual
def uptoBulk {H : Type} : DataW H → Nat
  | .lit (.string bytes) => bytes.length + 1
  | .lit _ => 1
  | .nil => 1
  | .ptr d => uptoBulk d + 1
  | .slice elems spare => uptoBulkAll elems + uptoBulkAll spare + 1
  | .agg parts => uptoBulkAll parts + 1
  | .iface _ d => uptoBulk d + 1
  | .map entries => uptoBulkEntries entries + 1
  | .held _ => 1
def uptoBulkAll {H : Type} : List (DataW H) → Nat
  | [] => 0
  | d :: r => uptoBulk d + uptoBulkAll r
def uptoBulkEntries {H : Type} : List (Lit × DataW H) → Nat
  | [] => 0
  | x :: r => uptoBulkEntry x + uptoBulkEntries r
def uptoBulkEntry {H : Type} : Lit × DataW H → Nat
  | (.string bytes, d) => bytes.length + uptoBulk d + 1
  | (_, d) => uptoBulk d + 1
 end
def uptoSmall : (H : Type) → List (DataW H) → Bool := fun _ ds => decide (uptoBulkAll ds ≤ 1048576)
def OpenSpec.upto (s : _root_.Go.ChangeSpec) : _root_.Go.OpenSpec := { _root_.Go.OpenSpec.ofChange s with cond := some uptoSmall }

/-- 'firebreaklaw14.ConfCut', WHERE WHAT IT READS IS OF BULK AT MOST 1048576: true; the input reads as it did. -/
def confCutUptoRow : OpenClaim := { program := "ytaefgljpdpigeaa", sum := "8622cf2fd8122d99e577fc284e23bd576cdb7697930ff8bb06e1fd0e6808cb93", func := "firebreak/firebreaklaw14.ConfCut", spec := "confCut", inPlace := ["internal/bytealg.IndexByteString", "internal/bytealg.IndexString"], unfollowed := true, recurses := true, named := ["internal/bytealg.MaxLen"], apart := false, narrowed := true }
def ConfCutUptoSaid : Prop := confCutUptoRow.holds Try.pinned (OpenSpec.upto confCutSpec)

/-- 'firebreaklaw14.ConfKeeps', WHERE WHAT IT READS IS OF BULK AT MOST 1048576: true; the input reads as it did. -/
def confKeepsUptoRow : OpenClaim := { program := "ytaefgljpdpigeaa", sum := "8622cf2fd8122d99e577fc284e23bd576cdb7697930ff8bb06e1fd0e6808cb93", func := "firebreak/firebreaklaw14.ConfKeeps", spec := "confKeeps", inPlace := ["internal/bytealg.IndexByteString", "internal/bytealg.IndexString"], unfollowed := true, recurses := true, named := ["internal/bytealg.MaxLen"], apart := false, narrowed := true }
def ConfKeepsUptoSaid : Prop := confKeepsUptoRow.holds Try.pinned (OpenSpec.upto confKeepsSpec)

/-- 'firebreaklaw14.ConfNames', WHERE WHAT IT READS IS OF BULK AT MOST 1048576: true; the input reads as it did. -/
def confNamesUptoRow : OpenClaim := { program := "ytaefgljpdpigeaa", sum := "8622cf2fd8122d99e577fc284e23bd576cdb7697930ff8bb06e1fd0e6808cb93", func := "firebreak/firebreaklaw14.ConfNames", spec := "confNames", inPlace := ["internal/bytealg.IndexByteString", "internal/bytealg.IndexString"], unfollowed := true, recurses := true, named := ["internal/bytealg.MaxLen"], apart := false, narrowed := true }
def ConfNamesUptoSaid : Prop := confNamesUptoRow.holds Try.pinned (OpenSpec.upto confNamesSpec)

/-- 'firebreaklaw14.ConfMays', WHERE WHAT IT READS IS OF BULK AT MOST 1048576: true; the input reads as it did. -/
def confMaysUptoRow : OpenClaim := { program := "ytaefgljpdpigeaa", sum := "8622cf2fd8122d99e577fc284e23bd576cdb7697930ff8bb06e1fd0e6808cb93", func := "firebreak/firebreaklaw14.ConfMays", spec := "confMays", inPlace := ["internal/bytealg.IndexByteString", "internal/bytealg.IndexString"], unfollowed := true, recurses := true, named := ["internal/bytealg.MaxLen"], apart := false, narrowed := true }
def ConfMaysUptoSaid : Prop := confMaysUptoRow.holds Try.pinned (OpenSpec.upto confMaysSpec)

/-- 'firebreaklaw14.ConfReads', WHERE WHAT IT READS IS OF BULK AT MOST 1048576: true; the input reads as it did. -/
def confReadsUptoRow : OpenClaim := { program := "ytaefgljpdpigeaa", sum := "8622cf2fd8122d99e577fc284e23bd576cdb7697930ff8bb06e1fd0e6808cb93", func := "firebreak/firebreaklaw14.ConfReads", spec := "confReads", inPlace := ["internal/bytealg.IndexByteString", "internal/bytealg.IndexString"], unfollowed := true, recurses := true, named := ["internal/bytealg.MaxLen"], apart := false, narrowed := true }
def ConfReadsUptoSaid : Prop := confReadsUptoRow.holds Try.pinned (OpenSpec.upto confReadsSpec)

/-- 'firebreaklaw14.ConfReturns', WHERE WHAT IT READS IS OF BULK AT MOST 1048576: true; the input reads as it did. -/
def confReturnsUptoRow : OpenClaim := { program := "ytaefgljpdpigeaa", sum := "8622cf2fd8122d99e577fc284e23bd576cdb7697930ff8bb06e1fd0e6808cb93", func := "firebreak/firebreaklaw14.ConfReturns", spec := "confReturns", inPlace := ["internal/bytealg.IndexByteString", "internal/bytealg.IndexString"], unfollowed := true, recurses := true, named := ["internal/bytealg.MaxLen"], apart := false, narrowed := true }
def ConfReturnsUptoSaid : Prop := confReturnsUptoRow.holds Try.pinned (OpenSpec.upto confReturnsSpec)

end Rows
end Go.Proofs.Ytaefgljpdpigeaa
