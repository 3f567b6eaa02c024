/- The walks of package post's round, Take (layer 10). -/
import Derived.Test.YtnfaafdgfafcjaaPostH
import Derived.RangeFuncNested
import Derived.RangeFuncBound
import Derived.RangeFuncCalls
import Derived.RangeFuncLeaves
import Derived.Shelf.Abstract
import Derived.Shelf.RegionOpen
import Derived.OwnWalkIn
import Derived.TacticsInMore
import Derived.LoopNIn
import Derived.LoopIn
namespace Go.Proofs.Ytnfaafdgfafcjaa.Lane
open Go.RowKit Go.Fb Go.Shelf
attribute [local go_sem] Oper.semAt_some
set_option linter.unusedVariables false
theorem new_holds {a b : World} (h : New a b) {p : Addr} {v : Value} (hc : a.cell? p = some v) : b.cell? p = some v := (h.cell (lt_of_cell hc).1 id).trans hc
section
variable {w : World} {b : Nat} {F : Nat → Prop} {Ls : List Lane} {cur : Int}
theorem round_any (h : PAt w b F Ls cur) : Calls Try.prog 23 #[.pointer (some ⟨b, 0, none⟩)] w fun e w' => ∃ b3 b4, e = .returned (.func (.func 47) #[] #[.pointer (some ⟨b4, 0, none⟩), .pointer (some ⟨b3, 0, none⟩)]) ∧ w'.cell? ⟨b3, 0, none⟩ = some (.int .i64 cur) ∧ w'.cell? ⟨b4, 0, none⟩ = some (.int .i64 Ls.length) ∧ w.heap.size ≤ b3 ∧ w.heap.size ≤ b4 ∧ New w w' := by
  obtain ⟨A, c, c0, c1, hb⟩ := h.head
  generalize Ls.length = n at *
  have HS : Hid (∀ W, New w W → W.cell? ⟨b, 0, none⟩ = some (.slice A n c) ∧ W.cell? ⟨b, 1, none⟩ = some (.int .i64 cur)) := Lib.hid fun W hW => ⟨(hW.cell (p := ⟨b, 0, none⟩) (lt_of_cell c0).1 id).trans c0, (hW.cell (p := ⟨b, 1, none⟩) (lt_of_cell c1).1 id).trans c1⟩
  clear h
  go_enter Try.func23, Try.ntmps23
  go_upto_region 1 with (fail)
  go_region_held3 (fun W => W.cell? ⟨b, 0, none⟩ = some (.slice A n c) ∧ W.cell? ⟨b, 1, none⟩ = some (.int .i64 cur)) (first | (refine HS.out _ ?_; repeat (first | exact Kept.refl _ _ | refine Kept.drew ?_ | refine Kept.alloc ?_ _ | refine Kept.setCell ?_ (.inl (by simp; try omega)) _)) | go_keep) (fail)
  · go_wp2_with fail
    go_ret
    have h1 := new_cell w (.int .i64 cur) 3 w.heap.size rfl
    exact ⟨_, _, rfl, (new_holds (a := (w.alloc (.cells #[.int .i64 cur] 3))) ((Kept.refl _ _).alloc _).drew h1), new_cell (w.alloc _) (.int .i64 n) 3 _ (size1 _ _), Nat.le_refl _, Nat.le_succ _, (((Kept.refl _ _).alloc _).alloc _).drew⟩
  · go_wp2_with fail
    go_ret
    have h1 := new_cell w (.int .i64 (n : Int)) 3 w.heap.size rfl
    exact ⟨_, _, rfl, new_cell (w.alloc _) (.int .i64 cur) 3 _ (size1 _ _), (new_holds (a := (w.alloc (.cells #[.int .i64 (n : Int)] 3))) ((Kept.refl _ _).alloc _).drew h1), Nat.le_succ _, Nat.le_refl _, (((Kept.refl _ _).alloc _).alloc _).drew⟩
/-- The lanes' numbers, from the cursor on. -/
abbrev Num (n : Nat) := { x : Int // 0 ≤ x ∧ x < (n : Int) }
def numK (c n k : Nat) (h : 0 < n) : Num n := ⟨((c : Int) + (k : Int)) % (n : Int), Int.emod_nonneg _ (by omega), Int.emod_lt_of_pos _ (by omega)⟩
def numsTo (c n : Nat) (h : 0 < n) (k : Nat) : List (Num n) := (List.range k).map fun k => numK c n k h
theorem numsTo_succ (c n : Nat) (h : 0 < n) (k : Nat) : numsTo c n h (k + 1) = numsTo c n h k ++ [numK c n k h] := by simp [numsTo, List.range_succ]
theorem numsTo_len (c n : Nat) (h : 0 < n) (k : Nat) : (numsTo c n h k).length = k := by simp [numsTo]
theorem numsTo_pre (c n : Nat) (h : 0 < n) {k m : Nat} (hk : k ≤ m) : numsTo c n h k <+: numsTo c n h m := by
  obtain ⟨d, rfl⟩ : ∃ d, m = k + d := ⟨m - k, by omega⟩
  refine ⟨(List.range d).map fun j => numK c n (k + j) h, ?_⟩
  simp [numsTo, List.range_add]
set_option maxRecDepth 100000 in
set_option maxHeartbeats 2000000 in
theorem round1_in (Fe : Fence) (N : Nat) (h47 : Fe.fn 47) (hro : Fe.round = none) (hn : 1 ≤ N) (l b3 b4 c n : Nat) (h0 : 0 < n) (hc : c < n) (hn9 : n ≤ 1048576) (Kp : World → World → Prop) (hKt : ∀ {A B C : World}, Kp A B → Kp B C → Kp A C) (hKr : ∀ W, Kp W W) (hK : ∀ W W', Kp W W' → W'.cell? ⟨b3, 0, none⟩ = W.cell? ⟨b3, 0, none⟩ ∧ W'.cell? ⟨b4, 0, none⟩ = W.cell? ⟨b4, 0, none⟩) (J Jx : List (Num n) → World → Prop)
    (hY : ∀ pre x W, J pre W → pre.length < n → YieldAt Fe (N - 1) Try.prog l #[.int .i64 x.1] W fun e W' =>
      (e = .returned (.bool true) ∧ J (pre ++ [x]) W' ∧ Kp W W') ∨ (e = .returned (.bool false) ∧ Jx (pre ++ [x]) W'))
    (W : World) (hb3 : W.cell? ⟨b3, 0, none⟩ = some (.int .i64 (c : Int))) (hb4 : W.cell? ⟨b4, 0, none⟩ = some (.int .i64 (n : Int))) (hJ0 : J [] W) :
    CallsIn Fe N Try.prog 47 #[.func (.yield l) #[] #[], .pointer (some ⟨b4, 0, none⟩), .pointer (some ⟨b3, 0, none⟩)] W fun e W' => (∃ v, e = .returned v) ∧
      ((∃ ys, ys = numsTo c n h0 n ∧ J ys W') ∨ (∃ pre, pre <+: numsTo c n h0 n ∧ Jx pre W')) := by
  refine callsIn_of_wp Try.func47 rfl h47 ?_ hro
  simp only [Try.ntmps47, List.size_toArray, List.length_cons, List.length_nil, Nat.reduceAdd, Nat.reduceSub, Array.replicate_succ, Array.replicate_zero, List.push_toArray, List.append_toArray, List.nil_append, List.cons_append]
  gi_wp2
  gi_loopw [6] (fun i wr => ∃ k : Nat, k ≤ n ∧ i = .int .i64 k ∧ J (numsTo c n h0 k) wr ∧ Kp W wr) (fun i _ => n - (intOf i).toNat)
  case atStart => exact ⟨0, Nat.zero_le _, rfl, hJ0, hKr W⟩
  case round =>
    obtain ⟨k, hk, rfl, hJs, hnx⟩ := hrel
    obtain ⟨q3, q4⟩ := hK _ _ hnx
    have x3 := q3.trans hb3
    have x4 := q4.trans hb4
    by_cases hlt : k < n
    · obtain ⟨fn, tmps, assign, body, hy, hR⟩ := hY _ (numK c n k h0) wr hJs (by rw [numsTo_len]; exact hlt)
      have hy' : (Instr.yield l #[.int .i64 (((c : Int) + (k : Int)) % (n : Int))]).run Try.prog wr = .ok (.round l fn tmps assign body) wr := hy
      have i1 : (0 : Int) ≤ (c : Int) := by omega
      have i2 : (c : Int) < (n : Int) := by omega
      have i3 : (0 : Int) < (n : Int) := by omega
      have HS := Lib.hid (numsTo_succ c n h0 k)
      have HP := Lib.hid (numsTo_pre c n h0 (show k + 1 ≤ n from hlt))
      have HJS := Lib.hid hJs
      have HNX := Lib.hid hnx
      clear hJs hnx
      clear hy hY q3 q4
      gi_wp2
      refine hR.mono ?_
      rintro e W3 (⟨rfl, hJ3, hk3⟩ | ⟨rfl, hJx3⟩)
      · gi_wp2
        go_roundw
        case rel => exact ⟨k + 1, by omega, by go_num, by rw [HS.out]; exact hJ3, hKt HNX.out hk3⟩
        case measure => simp [intOf]; omega
      · gi_wp2
        refine bodyPost_ret (results_none rfl _ _ _) rfl ?_
        exact ⟨⟨_, rfl⟩, .inr ⟨_, by rw [← HS.out]; exact HP.out, hJx3⟩⟩
    · obtain rfl : k = n := by omega
      gi_wp2
      go_end0
      exact ⟨⟨_, rfl⟩, .inl ⟨_, rfl, hJs⟩⟩
end
end Go.Proofs.Ytnfaafdgfafcjaa.Lane
