/- A config, plainly; how it lies; whether it may be (layer 14). -/
import Derived.Test.YtaefgljpdpigeaaSlotsNa
namespace Go.Proofs.Ytaefgljpdpigeaa.Conf
open Go.RowKit Go.Fb Go.CodeP
set_option linter.unusedVariables false
structure Cf where
  labels : List Int
  table : List Int
  fuel : Int
  lane : Int
  locks : Int
  log : Int
  procs : List (Int × List Ins)
/-- What is wrong with a process. -/
def procE (parts locks : Int) (p : Int × List Ins) : Int := if withinB p.1 0 (parts - 1) then (may p.2 locks).1 else 2
/-- What is wrong with a config, and with which part of it. -/
def mayC (c : Cf) : Int × Int :=
  if (labE c.labels).1 ≠ 0 then ((labE c.labels).1, 0)
  else if manyE c.table.length 64 ≠ 0 then (manyE c.table.length 64, 1)
  else if (Slots.newE c.table c.labels.length).1 ≠ 0 then ((Slots.newE c.table c.labels.length).1, 1)
  else if rangedE 2 c.fuel ≠ 0 then (rangedE 2 c.fuel, 2)
  else if rangedE 3 c.lane ≠ 0 then (rangedE 3 c.lane, 3)
  else if rangedE 4 c.locks ≠ 0 then (rangedE 4 c.locks, 4)
  else if rangedE 5 c.log ≠ 0 then (rangedE 5 c.log, 5)
  else if manyE c.procs.length 32 ≠ 0 then (manyE c.procs.length 32, 6)
  else match (List.range c.procs.length).find? (fun i => decide (procE c.labels.length c.locks (c.procs.getD i (0, [])) ≠ 0)) with
    | some i => (procE c.labels.length c.locks (c.procs.getD i (0, [])), 7 + (i : Int))
    | none => (0, 0)
end Go.Proofs.Ytaefgljpdpigeaa.Conf
