/- LocksLay: locks that are laid so, of any owners and queues, and every script over them.
WHERE what it reads is of bulk at most 1048576 (without that it is false by size). No other condition. -/
import Derived.Test.YtjjlemkmdldljaaRows
import Derived.Test.YtjjlemkmdldljaaLaw
import Derived.Test.YtjjlemkmdldljaaUp
import Derived.Test.YtjjlemkmdldljaaUpb
import Derived.Test.YtjjlemkmdldljaaLocksLg
namespace Go.Proofs.Ytjjlemkmdldljaa.locksLay
open Go.RowKit Go.Fb Go.ChangeShapes Go.WideShapes Go.ChangeAt
set_option linter.unusedVariables false
theorem own : ownKnob Try.prog.godebug = none := by kernel_rfl
theorem laidOut : laidOutB Try.prog = true := by kernel_rfl
theorem readable : ∀ t ∈ Try.f6.params.toList, Try.prog.readableRec t = true ∧ t < Try.prog.types.size := by
  intro t ht
  rw [Try.params6] at ht
  simp only [List.mem_cons, List.not_mem_nil, or_false] at ht
  rcases ht with rfl | rfl | rfl <;> exact ⟨by kernel_rfl, of_decide_eq_true (by kernel_rfl)⟩
theorem says : SaysTrue Rows.locksLaySpec Try.f6.params.size := by
  intro H ds h
  rw [Try.params6] at h
  match ds, h with
  | [d1, d2, d3], _ => exact ⟨rfl, rfl, rfl⟩
set_option maxRecDepth 100000 in
theorem walk {H : Type} {enc : TypeId × Value → H} (W : World) (args : Array Value) (ds : List (DataW H)) (hds : Rows.uptoBulkAll ds ≤ 1048576) (hdl : ds.length = Try.f6.params.size) (ha : ∀ (j : Nat) t v, Try.f6.params[j]? = some t → args[j]? = some v → (∃ base, Value.okWide Try.prog W .any base t v) ∧ ∃ d p, DataW.Trod enc Try.prog W 0 (fun _ => true) true t v d p ∧ ds[j]? = some d) (hs : args.size = Try.f6.params.size) :
    Calls Try.prog 6 args W fun e W' => e = .returned (.bool true) ∧ Below W.heap.size W W' := by
  rw [Try.params6] at ha hs hdl
  obtain ⟨l⟩ := args
  match l, hs with
  | [v0, v1, v2], _ =>
    obtain ⟨⟨base0, hv0⟩, e0, p0, ht0, g0⟩ := ha 0 35 v0 rfl rfl
    obtain ⟨⟨base1, hv1⟩, e1, p1, ht1, g1⟩ := ha 1 36 v1 rfl rfl
    obtain ⟨⟨base2, hv2⟩, e2, p2, ht2, g2⟩ := ha 2 23 v2 rfl rfl
    clear ha
    have gsum : Rows.uptoBulk e0 + Rows.uptoBulk e1 + Rows.uptoBulk e2 ≤ 1048576 := by
      match ds, hdl with
      | [dd0, dd1, dd2], _ =>
        simp only [List.getElem?_cons_zero, List.getElem?_cons_succ, Option.some.injEq] at g0 g1 g2
        subst g0
        subst g1
        subst g2
        simp only [Rows.uptoBulkAll] at hds
        omega
    clear g0 g1 g2 hds hdl
    obtain ⟨A0, n0, c0, l0, rfl, h0⟩ := arg_slice (R := (Rep.int .i64)) Try.underlying35 (by kernel_rfl) (by decide) (opens_int Try.underlying3) ht0 hv0
    obtain ⟨A1, n1, c1, l1, rfl, h1⟩ := arg_slice (R := (Rep.int .i64).slice) Try.underlying36 (by kernel_rfl) (by decide) ((opens_slice Try.underlying35 (by kernel_rfl) (by decide) (opens_int Try.underlying3))) ht1 hv1
    obtain ⟨A2, n2, c2, l2, rfl, h2⟩ := arg_slice (R := Locks.repOp) Try.underlying23 (by kernel_rfl) (by decide) (Locks.opens_op) ht2 hv2
    exact (Locks.lay_walk A0 n0 c0 l0 A1 n1 c1 l1 A2 n2 c2 l2 W h0 h1 h2 (fun q hq => by have k1 := Up.bulk_rows Try.underlying36 Try.underlying35 (by kernel_rfl) ht1 h1 q hq; have k2 := Up.bulk_slice Try.underlying23 ht2; omega) (by have k2 := Up.bulk_slice Try.underlying23 ht2; omega)).mono fun e W' h => ⟨h.1, h.2.below⟩
set_option maxRecDepth 100000 in
theorem lifted (os : Os) (started : os.Started) (H : Type) (enc : TypeId × Value → H) (F : Stop.Interp) :
    ReturnsInHanded {} Try.checked os 6 .any ((Rows.OpenSpec.upto Rows.locksLaySpec).pre6 enc Try.prog Try.f6 Rows.locksLayUptoRow.domain false) (((Rows.OpenSpec.upto Rows.locksLaySpec).at F).post enc Try.prog Try.f6 false true false false) :=
  Up.law_uptoAll (C := Try.checked) (F := F) started own (by kernel_rfl) Try.func6
    (OpenSpec.witness (enc := enc) (C := Try.checked) (s := Rows.OpenSpec.upto Rows.locksLaySpec) (k := Rows.uptoSmall) rfl false ⟨#[], #[.slice none 0 0, .slice none 0 0, .slice none 0 0], []⟩ 8 (by kernel_rfl) (by kernel_rfl) (by kernel_rfl) (x := ([.nil, .nil, .nil], [], [])) (by kernel_rfl) rfl (by kernel_rfl))
    laidOut readable rfl Try.underlying4 rfl says (fun W args ds h1 h2 ha hs => walk W args ds h1 h2 ha hs)
theorem proved : Rows.LocksLayUptoSaid :=
  OpenClaim.holds_of_cond 6 Try.f6 rfl rfl rfl rfl rfl rfl rfl ⟨rfl, rfl, rfl, rfl, rfl⟩ rfl rfl rfl rfl rfl (by kernel_rfl) Try.func6 (by kernel_rfl)
    (of_decide_eq_true (by kernel_rfl)) (by unfold Func.isWrapper; first | (rw [if_pos (by decide +kernel)]; kernel_rfl) | (rw [if_neg (by decide +kernel)]; exact ⟨rfl, rfl⟩))
    (fun os started H enc _ F => lifted os started H enc F)
#print axioms proved
end Go.Proofs.Ytjjlemkmdldljaa.locksLay
