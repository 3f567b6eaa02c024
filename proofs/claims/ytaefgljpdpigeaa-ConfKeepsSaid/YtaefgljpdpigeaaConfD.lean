/- Reading a config's bytes, plainly (layer 14). No program in sight. -/
import Derived.Test.YtaefgljpdpigeaaConfF
import Derived.Test.YtaefgljpdpigeaaReaderP
namespace Go.Proofs.Ytaefgljpdpigeaa.Conf
open Go.RowKit Go.Fb Go.CodeP Go.BytesP Go.ReaderP
set_option linter.unusedVariables false
/-- A number of so many bytes, of which f tells what is wrong with it. -/
def numD (b : List UInt8) (m : Nat) (f : Nat → Int) (p : Nat) : Except (Int × Int) (Nat × Nat) :=
  if b.length < p + m then .error (5, b.length) else if f (numV b p m) = 0 then .ok (numV b p m, p + m) else .error (f (numV b p m), p)
def markD (b : List UInt8) : List UInt8 → Nat → Except (Int × Int) Nat
  | [], p => .ok p
  | c :: l, p => match numD b 1 (fun v => if v = c.toNat then 0 else 4) p with
    | .error e => .error e
    | .ok (_, p') => markD b l p'
def labF (acc : List Int) (a : Nat) : Int := if acc.length = 0 then 0 else if (a : Int) = acc.getD (acc.length - 1) 0 then 8 else if (a : Int) < acc.getD (acc.length - 1) 0 then 7 else 0
def labelsD (b : List UInt8) : Nat → List Int → Nat → Except (Int × Int) (List Int × Nat)
  | 0, acc, p => .ok (acc, p)
  | k + 1, acc, p => match numD b 8 (labF acc) p with
    | .error e => .error e
    | .ok (a, p') => labelsD b k (acc ++ [(a : Int)]) p'
def partF (parts : Int) (v : Nat) : Int := if parts ≤ v then 2 else 0
def tableD (b : List UInt8) (parts : Int) : Nat → List Int → Nat → Except (Int × Int) (List Int × Nat)
  | 0, acc, p => .ok (acc, p)
  | k + 1, acc, p => match numD b 1 (partF parts) p with
    | .error e => .error e
    | .ok (a, p') => tableD b parts k (acc ++ [(a : Int)]) p'
def insD (b : List UInt8) (n locks : Int) (p : Nat) : Except (Int × Int) (Ins × Nat) :=
  if b.length < p + 12 then .error (5, b.length)
  else if (wrong (get ((b.drop p).take 12)) n locks).1 = 0 then .ok (get ((b.drop p).take 12), p + 12)
  else .error ((wrong (get ((b.drop p).take 12)) n locks).1, p + (wrong (get ((b.drop p).take 12)) n locks).2)
def codeD (b : List UInt8) (n locks : Int) : Nat → List Ins → Nat → Except (Int × Int) (List Ins × Nat)
  | 0, acc, p => .ok (acc, p)
  | k + 1, acc, p => match insD b n locks p with
    | .error e => .error e
    | .ok (x, p') => codeD b n locks k (acc ++ [x]) p'
def codeF (v : Nat) : Int := if 256 < v then 3 else 0
def procD (b : List UInt8) (parts locks : Int) (p : Nat) : Except (Int × Int) ((Int × List Ins) × Nat) :=
  match numD b 1 (partF parts) p with
  | .error e => .error e
  | .ok (q, p1) => match numD b 2 codeF p1 with
    | .error e => .error e
    | .ok (k, p2) => match codeD b k locks k [] p2 with
      | .error e => .error e
      | .ok (l, p3) => .ok (((q : Int), l), p3)
def procsD (b : List UInt8) (parts locks : Int) : Nat → List (Int × List Ins) → Nat → Except (Int × Int) (List (Int × List Ins) × Nat)
  | 0, acc, p => .ok (acc, p)
  | k + 1, acc, p => match procD b parts locks p with
    | .error e => .error e
    | .ok (x, p') => procsD b parts locks k (acc ++ [x]) p'
def countF (most : Int) (v : Nat) : Int := manyE v most
def rangeF (part : Int) (v : Nat) : Int := rangedE part v
/-- The labels, behind their number. -/
def labD (b : List UInt8) (p : Nat) : Except (Int × Int) (List Int × Nat) :=
  match numD b 1 (countF 8) p with
  | .error e => .error e
  | .ok (n, p) => labelsD b n [] p
def tabD (b : List UInt8) (parts : Int) (p : Nat) : Except (Int × Int) (List Int × Nat) :=
  match numD b 1 (countF 64) p with
  | .error e => .error e
  | .ok (n, p) => tableD b parts n [] p
/-- The four numbers. -/
def fourD (b : List UInt8) (p : Nat) : Except (Int × Int) ((Nat × Nat × Nat × Nat) × Nat) :=
  match numD b 2 (rangeF 2) p with
  | .error e => .error e
  | .ok (n1, p) => match numD b 1 (rangeF 3) p with
    | .error e => .error e
    | .ok (n2, p) => match numD b 1 (rangeF 4) p with
      | .error e => .error e
      | .ok (n3, p) => match numD b 2 (rangeF 5) p with
        | .error e => .error e
        | .ok (n4, p) => .ok ((n1, n2, n3, n4), p)
def prsD (b : List UInt8) (parts locks : Int) (p : Nat) : Except (Int × Int) (List (Int × List Ins) × Nat) :=
  match numD b 1 (countF 32) p with
  | .error e => .error e
  | .ok (n, p) => procsD b parts locks n [] p
/-- All but what is behind it. -/
def bodyD (b : List UInt8) (p : Nat) : Except (Int × Int) (Cf × Nat) :=
  match labD b p with
  | .error e => .error e
  | .ok (ls, p) => match tabD b ls.length p with
    | .error e => .error e
    | .ok (t, p) => match fourD b p with
      | .error e => .error e
      | .ok ((n1, n2, n3, n4), p) => match prsD b ls.length n3 p with
        | .error e => .error e
        | .ok (ps, p) => .ok (⟨ls, t, n1, n2, n3, n4, ps⟩, p)
/-- The config of bytes, or what is wrong first. -/
def decD (b : List UInt8) : Except (Int × Int) Cf :=
  if 1048576 < b.length then .error (22, 1048576) else
  match markD b markB 0 with
  | .error e => .error e
  | .ok p => match bodyD b p with
    | .error e => .error e
    | .ok (c, p) => if p < b.length then .error (6, p) else .ok c
/-- How a reader stands behind such a reading. -/
def Agr {α : Type} (x : Except (Int × Int) (α × Nat)) (s : St) (a : α) : Prop :=
  match x with
  | .ok (a', p) => s = .ok p ∧ a = a'
  | .error e => s = .error e
/-- A reading from where a reader stands. -/
def Run {α : Type} (D : Nat → Except (Int × Int) (α × Nat)) (s s' : St) (a : α) : Prop :=
  match s with
  | .ok p => Agr (D p) s' a
  | .error e => s' = .error e
def isErr : St → Bool
  | .ok _ => false
  | .error _ => true
end Go.Proofs.Ytaefgljpdpigeaa.Conf
