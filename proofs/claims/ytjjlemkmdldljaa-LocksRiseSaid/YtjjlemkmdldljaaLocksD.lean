/- slices.Delete of one number, at this dump: the library's contract, over a row (layer 12). -/
import Derived.Shelf.Slices.Delete
import Derived.Test.YtjjlemkmdldljaaLocksJ
namespace Go.Proofs
open Go.Shelf
def Try.lays23_ren : Go.Shelf.Ren := ⟨fun | 23 => 27 | _ => 0, fun | 0 => 0 | 3 => 3 | 4 => 4 | 22 => 35 | _ => 0, fun _ => 0⟩
theorem Try.lays23 : Go.Proofs.Lays2.n23 Try.prog Try.lays23_ren := {
  mixed := by kernel_rfl
  f23 := Try.func27.trans (congrArg some (by kernel_rfl))
  t0 := by kernel_rfl
  a0 := fun w => by kernel_rfl
  z0 := fun w => by kernel_rfl
  v0 := fun w => by kernel_rfl
  t3 := Try.underlying3
  a3 := Try.isAgg3
  z3 := Try.sizeOf3
  v3 := Try.zeroValue3
  t4 := Try.underlying4
  a4 := Try.isAgg4
  z4 := Try.sizeOf4
  v4 := Try.zeroValue4
  t22 := Try.underlying35
  a22 := Try.isAgg35
  z22 := Try.sizeOf35
  v22 := Try.zeroValue35
  i3 := by kernel_rfl }
end Go.Proofs
namespace Go.Proofs.Ytjjlemkmdldljaa.Locks
open Go.RowKit Go.Fb Go.Sort
theorem kept_putRow (w : World) (q g o : Nat) (d : Array Int) : Kept (fun k => k = g) w (putRow (Value.int .i64) (Sort.ahead w q) g o d) :=
  ⟨rfl, rfl, rfl, by rw [size_putRow]; exact Nat.le_refl _, fun k hk hg => by
    show ((w.heap.modify g _)[k]?) = _
    rw [Array.getElem?_modify, if_neg (fun e => hg e.symm)]⟩
theorem delete_any {w : World} {r : Option Nat} {A : Option Addr} {n c : Nat} {q : List Int} (h : Row w 1 r A n c (q.map (Value.int .i64))) (i : Nat) (hi : i < q.length) : Calls Try.prog 27 #[.slice A n c, .int .i64 (i : Int), .int .i64 ((i + 1 : Nat) : Int)] w fun e w' =>
    e = .returned (.slice A (n - 1) c) ∧ Row w' 1 r A (n - 1) c ((q.eraseIdx i).map (Value.int .i64)) ∧ Kept (fun k => r = some k) w w' := by
  have hl := h.length
  rw [List.length_map, Nat.mul_one] at hl
  subst hl
  have hb := h.bound
  obtain ⟨g, o, rfl, rfl, h5, h6⟩ := h.at_pos (by omega)
  have hH : Holds (Value.int .i64) w g o q.toArray := fun j hj => by
    have hj' : j < q.length := by simpa using hj
    refine ⟨?_, (h6 j (by omega)).2⟩
    rw [h5 j (by omega), List.getElem?_map, List.getElem?_eq_getElem hj']
    simp [hj']
  refine (Any.slices_Delete_int Try.lays23 g o c i (i + 1) q w hH hb.1 hb.2 (by omega) hi).mono ?_
  rintro e w' ⟨rfl, m, rfl⟩
  have e1 : q.length - (i + 1 - i) = q.length - 1 := by omega
  have e2 : (q.take i ++ q.drop (i + 1) ++ List.replicate (i + 1 - i) 0) = q.eraseIdx i ++ [0] := by
    rw [List.eraseIdx_eq_take_drop_succ, show i + 1 - i = 1 by omega]; rfl
  have e3 : (q.eraseIdx i).length = q.length - 1 := by rw [List.length_eraseIdx, if_pos hi]
  rw [e1, e2]
  have hs : (q.eraseIdx i ++ [0]).toArray.size = q.toArray.size := by simp [e3]; omega
  have hH' := holds_putRow (Value.int .i64) (Sort.ahead w m) g o q.toArray (q.eraseIdx i ++ [0]).toArray (fun j hj => hH j hj) hs
  refine ⟨rfl, ⟨by simp [e3], .inr ⟨by omega, g, o, rfl, rfl, by omega, hb.2, fun j hj => ?_, fun j hj => ?_⟩⟩, (kept_putRow w m g o _).mono fun k _ e => by rw [e]⟩
  · have hj' : j < (q.eraseIdx i).length := by rw [e3]; omega
    rw [(hH' j (by simp; omega)).1, List.getElem?_map, List.getElem?_eq_getElem hj']
    simp [List.getElem_append_left hj', Nat.lt_succ_of_lt hj']
  · refine ⟨?_, by rw [frozen?_putRow]; exact (h6 j hj).2⟩
    by_cases hjn : j < q.length
    · rw [(hH' j (by simp [e3]; omega)).1]; rfl
    · rw [cell?_putRow_other _ _ _ _ _ _ (.inr (.inr (by rw [hs]; simp; omega)))]
      exact (h6 j hj).1
end Go.Proofs.Ytjjlemkmdldljaa.Locks
