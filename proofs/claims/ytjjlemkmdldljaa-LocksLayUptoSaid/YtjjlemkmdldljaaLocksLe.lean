/- What was laid keeps the invariant; rooms: lists in memory of their own, with marks (layer 12). -/
import Derived.Test.YtjjlemkmdldljaaLocksLa
import Derived.Test.YtjjlemkmdldljaaLocksLb
import Derived.Test.YtjjlemkmdldljaaLocksR
namespace Go.Proofs.Ytjjlemkmdldljaa.Locks
open Go.RowKit Go.Fb
set_option linter.unusedVariables false
theorem nodup_of_take {l : List Int} (h : ∀ k (hk : k < l.length), l[k] ∉ l.take k) : l.Nodup := by
  refine List.pairwise_iff_getElem.2 fun i j hi hj hij e => h j hj ?_
  rw [← e]
  exact List.mem_take_iff_getElem.2 ⟨i, by omega, rfl⟩
theorem layTo_get {os : List Int} {qs : List (List Int)} {n i : Nat} (hi : i < (layTo os qs n).length) : (layTo os qs n)[i] = (oAt os i, qAt qs i) := by
  simp [layTo]
theorem LayOk.inv {os : List Int} {qs : List (List Int)} {n B : Nat} (h : LayOk os qs n) (hn : n ≤ 8) (hs : ∀ i, i < n → (qAt qs i).length ≤ B) : Inv B (layTo os qs n) := by
  have key : ∀ i j y, i < j → j < n → y ∈ qAt qs j → y ∉ qAt qs i := by
    intro i j y hij hj hy
    obtain ⟨k, hk, rfl⟩ := List.getElem_of_mem hy
    have := ((h j hj).2 k hk).2.2.1 i hij
    rwa [getD_nat _ _ _ hk] at this
  refine ⟨by rw [layTo_len]; exact hn, ?_, ?_, ?_, ?_, ?_⟩
  · intro x hx
    obtain ⟨j, hj, rfl⟩ := layTo_mem.1 hx
    exact (h j hj).1.1
  · intro x hx y hy
    obtain ⟨j, hj, rfl⟩ := layTo_mem.1 hx
    obtain ⟨k, hk, rfl⟩ := List.getElem_of_mem hy
    have := ((h j hj).2 k hk).1
    rwa [getD_nat _ _ _ hk] at this
  · intro x hx
    obtain ⟨j, hj, rfl⟩ := layTo_mem.1 hx
    refine nodup_of_take fun k hk => ?_
    have := ((h j hj).2 k hk).2.2.2
    rwa [getD_nat _ _ _ hk] at this
  · intro x hx
    obtain ⟨j, hj, rfl⟩ := layTo_mem.1 hx
    exact hs j hj
  · intro i j hi hj hij y hy hy'
    rw [layTo_get] at hy hy'
    rw [layTo_len] at hi hj
    rcases Nat.lt_or_gt_of_ne hij with e | e
    · exact key i j y e hj hy' hy
    · exact key j i y e hi hy hy'
/-- Rooms: the owners' list and the queues' lists, each in its own memory, new since B. -/
structure Rooms (B : Nat) (w : World) (ro : Option Nat) (Ao : Option Addr) (no co : Nat) (os : List Int) (rq : Option Nat) (Aq : Option Addr) (nq cq : Nat) (Y : List Lk) : Prop where
  ow : RoomAt w ro Ao no co os
  qu : Row w 1 rq Aq nq cq (Y.map slC)
  el : ∀ y ∈ Y, RoomAt w y.r y.A y.q.length y.c y.q
  fo : ∀ k, ro = some k → B ≤ k
  fq : ∀ k, rq = some k → B ≤ k
  fe : ∀ y ∈ Y, ∀ k, y.r = some k → B ≤ k
  d1 : ∀ k, ro = some k → rq ≠ some k
  d2 : ∀ y ∈ Y, ∀ k, y.r = some k → ro ≠ some k ∧ rq ≠ some k
  d3 : ∀ i j (hi : i < Y.length) (hj : j < Y.length), i ≠ j → ∀ k, Y[i].r = some k → Y[j].r ≠ some k
section
variable {B : Nat} {w w' : World} {ro : Option Nat} {Ao : Option Addr} {no co : Nat} {os : List Int} {rq : Option Nat} {Aq : Option Addr} {nq cq : Nat} {Y : List Lk}
theorem RoomAt.lt {w : World} {r : Option Nat} {A : Option Addr} {n c : Nat} {l : List Int} (h : RoomAt w r A n c l) : ∀ k, r = some k → k < w.heap.size := h.2.lt (by decide)
theorem Rooms.kept {G : Nat → Prop} (h : Rooms B w ro Ao no co os rq Aq nq cq Y) (hk : Kept G w w') (h1 : ∀ k, ro = some k → ¬ G k) (h2 : ∀ k, rq = some k → ¬ G k) (h3 : ∀ y ∈ Y, ∀ k, y.r = some k → ¬ G k) : Rooms B w' ro Ao no co os rq Aq nq cq Y :=
  ⟨h.ow.kept hk h1, h.qu.of_kept (by decide) hk h2, fun y hy => (h.el y hy).kept hk (h3 y hy), h.fo, h.fq, h.fe, h.d1, h.d2, h.d3⟩
theorem Rooms.new (h : Rooms B w ro Ao no co os rq Aq nq cq Y) (hk : New w w') : Rooms B w' ro Ao no co os rq Aq nq cq Y := h.kept hk (fun _ _ h => h) (fun _ _ h => h) (fun _ _ _ _ h => h)
theorem Rooms.push (h : Rooms B w ro Ao no co os rq Aq nq cq Y) (hB : B ≤ w.heap.size) (hn : New w w') {y : Lk} (hy : RoomAt w' y.r y.A y.q.length y.c y.q) (hf : ∀ k, y.r = some k → w.heap.size ≤ k)
    {r2 : Option Nat} {A2 : Option Addr} {c2 : Nat} {w2 : World} (hrow : Row w2 1 r2 A2 (nq + 1) c2 (Y.map slC ++ [slC y])) (hk : Kept (fun k => rq = some k) w' w2) (hr : ∀ k, r2 = some k → rq = some k ∨ w'.heap.size ≤ k) :
    Rooms B w2 ro Ao no co os r2 A2 (nq + 1) c2 (Y ++ [y]) := by
  have h' := h.new hn
  have hs := hn.size
  have lo := h.ow.lt
  have lq := h.qu.lt (by decide)
  have le : ∀ y ∈ Y, ∀ k, y.r = some k → k < w.heap.size := fun y hy => (h.el y hy).lt
  have ly := hy.lt
  have hyq : ∀ k, y.r = some k → rq ≠ some k := fun k e e' => by have := hf k e; have := lq k e'; omega
  refine ⟨h'.ow.kept hk (fun k e e' => h.d1 k e e'), by rw [List.map_append]; exact hrow, ?_, h.fo, ?_, ?_, ?_, ?_, ?_⟩
  · intro z hz
    rcases List.mem_append.1 hz with hz | hz
    · exact (h'.el z hz).kept hk (fun k e => (h.d2 z hz k e).2)
    · rw [List.mem_singleton.1 hz]; exact hy.kept hk hyq
  · intro k e
    rcases hr k e with e | e
    · exact h.fq k e
    · omega
  · intro z hz k e
    rcases List.mem_append.1 hz with hz | hz
    · exact h.fe z hz k e
    · rw [List.mem_singleton.1 hz] at e; exact Nat.le_trans hB (hf k e)
  · intro k e e'
    rcases hr k e' with e' | e'
    · exact h.d1 k e e'
    · have := lo k e; omega
  · intro z hz k e
    rcases List.mem_append.1 hz with hz | hz
    · refine ⟨(h.d2 z hz k e).1, fun e' => ?_⟩
      rcases hr k e' with e' | e'
      · exact (h.d2 z hz k e).2 e'
      · have := le z hz k e; omega
    · rw [List.mem_singleton.1 hz] at e
      refine ⟨fun e' => by have := hf k e; have := lo k e'; omega, fun e' => ?_⟩
      rcases hr k e' with e' | e'
      · exact hyq k e e'
      · have := ly k e; omega
  · intro i j hi hj hij k e e'
    rw [List.length_append, List.length_singleton] at hi hj
    by_cases gi : i < Y.length
    · rw [List.getElem_append_left gi] at e
      by_cases gj : j < Y.length
      · rw [List.getElem_append_left gj] at e'
        exact h.d3 i j gi gj hij k e e'
      · rw [List.getElem_append_right (by omega)] at e'
        simp only [List.getElem_singleton] at e'
        have := le _ (List.getElem_mem gi) k e; have := hf k e'; omega
    · rw [List.getElem_append_right (by omega)] at e
      simp only [List.getElem_singleton] at e
      by_cases gj : j < Y.length
      · rw [List.getElem_append_left gj] at e'
        have := le _ (List.getElem_mem gj) k e'; have := hf k e; omega
      · omega
theorem RoomAt.sl {w : World} {r : Option Nat} {A : Option Addr} {n c : Nat} {l : List Int} (h : RoomAt w r A n c l) (hw : ∀ x ∈ l, (Lit.int .i64 x).wf = true) : SliceOf (Rep.int .i64) w w.heap.size A n c l := by
  have hb := h.row.bound
  refine ⟨h.1, hb.1, hb.2, ?_⟩
  by_cases h0 : n = 0
  · exact .inl h0
  · obtain ⟨g, o, e1, e2, h5, h6⟩ := h.row.at_pos (by omega)
    refine .inr ⟨g, o, e2, h.lt g e1, fun i hi => ⟨[.int .i64 l[i]], fun j hj => ?_, rfl, hw _ (List.getElem_mem hi)⟩⟩
    obtain rfl : j = 0 := by change j < 1 at hj; omega
    have := h5 i (by have := h.1; omega)
    rw [List.getElem?_map, List.getElem?_eq_getElem hi] at this
    rw [show o + i * (Rep.int .i64).size + 0 = o + i from by show o + i * 1 + 0 = _; omega]
    exact this
theorem Rooms.sl (h : Rooms B w ro Ao no co os rq Aq nq cq Y) (hn : nq = Y.length) (hw : ∀ y ∈ Y, ∀ x ∈ y.q, (Lit.int .i64 x).wf = true) : SliceOf (Rep.int .i64).slice w w.heap.size Aq nq cq (Y.map (·.q)) := by
  have hb := h.qu.bound
  refine ⟨by rw [List.length_map]; exact hn, hb.1, hb.2, ?_⟩
  by_cases h0 : nq = 0
  · exact .inl h0
  · obtain ⟨g, o, e1, e2, h5, h6⟩ := h.qu.at_pos (by omega)
    refine .inr ⟨g, o, e2, h.qu.lt (by decide) g e1, fun i hi => ?_⟩
    have hi' : i < Y.length := by simpa using hi
    refine ⟨[slC Y[i]], fun j hj => ?_, ⟨_, _, _, rfl, ?_⟩⟩
    · obtain rfl : j = 0 := by change j < 1 at hj; omega
      have := h5 i (by omega)
      rw [List.getElem?_map, List.getElem?_eq_getElem hi'] at this
      rw [show o + i * (Rep.int .i64).slice.size + 0 = o + i from by show o + i * 1 + 0 = _; omega]
      exact this
    · have := (h.el _ (List.getElem_mem hi')).sl (hw _ (List.getElem_mem hi'))
      simpa using this
end
end Go.Proofs.Ytjjlemkmdldljaa.Locks
