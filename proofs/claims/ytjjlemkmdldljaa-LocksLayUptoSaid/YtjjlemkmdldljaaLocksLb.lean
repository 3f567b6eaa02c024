/- What may be laid; the walk of package locks' Lay (layer 12). -/
import Derived.Test.YtjjlemkmdldljaaLocksK
namespace Go.Proofs.Ytjjlemkmdldljaa.Locks
open Go.RowKit Go.Fb
set_option linter.unusedVariables false
def oAt (os : List Int) (i : Nat) : Int := os.getD i 0
def qAt (qs : List (List Int)) (i : Nat) : List Int := qs.getD i []
def OwnOk (os : List Int) (qs : List (List Int)) (i : Nat) : Prop := -1 ≤ oAt os i ∧ (oAt os i = -1 → qAt qs i = [])
def ElOk (os : List Int) (qs : List (List Int)) (i k : Nat) : Prop := 0 ≤ (qAt qs i).getD k 0 ∧ (qAt qs i).getD k 0 ≠ oAt os i ∧ (∀ j, j < i → (qAt qs i).getD k 0 ∉ qAt qs j) ∧ (qAt qs i).getD k 0 ∉ (qAt qs i).take k
def LayOk (os : List Int) (qs : List (List Int)) (n : Nat) : Prop := ∀ i, i < n → OwnOk os qs i ∧ ∀ k, k < (qAt qs i).length → ElOk os qs i k
/-- What stands before the i-th. -/
def layTo (os : List Int) (qs : List (List Int)) (i : Nat) : List (Int × List Int) := (List.range i).map fun j => (oAt os j, qAt qs j)
open Classical in
noncomputable def layErr (os : List Int) (qs : List (List Int)) : Int := if 8 < os.length ∨ 8 < qs.length then 3 else if os.length ≠ qs.length then 4 else if LayOk os qs os.length then 0 else 4
section
variable {os : List Int} {qs : List (List Int)} {i k n : Nat}
theorem layErr_big (h : 8 < os.length ∨ 8 < qs.length) : layErr os qs = 3 := by unfold layErr; rw [if_pos h]
theorem layErr_ne (h : ¬ (8 < os.length ∨ 8 < qs.length)) (h2 : os.length ≠ qs.length) : layErr os qs = 4 := by unfold layErr; rw [if_neg h, if_pos h2]
theorem layErr_bad (h : ¬ (8 < os.length ∨ 8 < qs.length)) (h2 : os.length = qs.length) (h3 : ¬ LayOk os qs os.length) : layErr os qs = 4 := by unfold layErr; rw [if_neg h, if_neg (fun h => h h2), if_neg h3]
theorem layErr_ok (h : ¬ (8 < os.length ∨ 8 < qs.length)) (h2 : os.length = qs.length) (h3 : LayOk os qs os.length) : layErr os qs = 0 := by unfold layErr; rw [if_neg h, if_neg (fun h => h h2), if_pos h3]
theorem LayOk.start : LayOk os qs 0 := fun i hi => absurd hi (Nat.not_lt_zero _)
theorem LayOk.next (h : LayOk os qs i) (h1 : OwnOk os qs i) (h2 : ∀ k, k < (qAt qs i).length → ElOk os qs i k) : LayOk os qs (i + 1) := fun j hj => by
  by_cases e : j = i
  · subst e; exact ⟨h1, h2⟩
  · exact h j (by omega)
theorem layTo_len : (layTo os qs i).length = i := by simp [layTo]
theorem layTo_succ : layTo os qs (i + 1) = layTo os qs i ++ [(oAt os i, qAt qs i)] := by simp [layTo, List.range_succ]
theorem layTo_mem {x : Int × List Int} : x ∈ layTo os qs i ↔ ∃ j, j < i ∧ x = (oAt os j, qAt qs j) := by
  simp only [layTo, List.mem_map, List.mem_range]
  exact ⟨fun ⟨j, h, e⟩ => ⟨j, h, e.symm⟩, fun ⟨j, h, e⟩ => ⟨j, h, e.symm⟩⟩
theorem wait_iff {L : List (Int × List Int)} {p : Int} : (waitAt L p).2 = true ↔ ∃ x ∈ L, p ∈ x.2 := by
  unfold waitAt
  split
  · rename_i h
    rw [List.findIdx_lt_length] at h
    obtain ⟨x, hx, e⟩ := h
    exact ⟨fun _ => ⟨x, hx, by simpa using e⟩, fun _ => rfl⟩
  · rename_i h
    rw [List.findIdx_lt_length] at h
    exact ⟨fun e => by simp at e, fun ⟨x, hx, e⟩ => absurd ⟨x, hx, by simpa using e⟩ h⟩
/-- Who waits already. -/
theorem wait_lay {p : Int} : (waitAt (layTo os qs i ++ [(oAt os i, (qAt qs i).take k)]) p).2 = true ↔ (∃ j, j < i ∧ p ∈ qAt qs j) ∨ p ∈ (qAt qs i).take k := by
  rw [wait_iff]
  constructor
  · rintro ⟨x, hx, hp⟩
    rcases List.mem_append.1 hx with hx | hx
    · obtain ⟨j, hj, rfl⟩ := layTo_mem.1 hx
      exact .inl ⟨j, hj, hp⟩
    · rw [List.mem_singleton] at hx
      subst hx
      exact .inr hp
  · rintro (⟨j, hj, hp⟩ | hp)
    · exact ⟨_, List.mem_append_left _ (layTo_mem.2 ⟨j, hj, rfl⟩), hp⟩
    · exact ⟨(oAt os i, (qAt qs i).take k), by simp, hp⟩
/-- A slice of slices, read. -/
theorem sl_at {w : World} {B : Nat} {A : Option Addr} {n c : Nat} {qs : List (List Int)} (h : SliceOf (Rep.int .i64).slice w B A n c qs) (hB : B ≤ w.heap.size) (i : Nat) (hi : i < n) : ∃ g o A' c', A = some ⟨g, o, none⟩ ∧ (∀ W, New w W → W.cell? ⟨g, o + i, none⟩ = some (.slice A' (qAt qs i).length c')) ∧ ∀ W, New w W → SliceOf (Rep.int .i64) W B A' (qAt qs i).length c' (qAt qs i) := by
  have hl := h.len
  obtain ⟨b, o, e, hb, hc⟩ := h.get (by omega)
  obtain ⟨es, g1, A', n', c', rfl, hs⟩ := hc i (by omega)
  have h0 := g1 0 Nat.zero_lt_one
  have hq : qAt qs i = qs[i]'(by omega) := getD_nat _ _ _ (by omega)
  rw [hq]
  have hn := hs.len
  subst hn
  simp only [Rep.slice, Nat.mul_one, Nat.add_zero, List.getElem?_cons_zero] at h0
  exact ⟨b, o, A', c', e, fun W hW => (hW.cell (p := ⟨b, o + i, none⟩) (by show b < _; omega) id).trans h0, fun W hW => hs.kept hW hB fun _ _ h => h⟩
theorem si_at {w : World} {B : Nat} {A : Option Addr} {n c : Nat} {os : List Int} (h : SliceOf (Rep.int .i64) w B A n c os) (i : Nat) (hi : i < n) : ∃ g o, A = some ⟨g, o, none⟩ ∧ w.cell? ⟨g, o + i, none⟩ = some (.int .i64 (oAt os i)) := by
  obtain ⟨g, o, h1, _, h2⟩ := h.ints (by omega)
  have hl := h.len
  exact ⟨g, o, h1, by rw [h2 i (by omega)]; unfold oAt; rw [getD_nat _ _ _ (by omega)]⟩
end
/-- The locks so far, in memory that is new. -/
def LayX (w wr : World) (L : List (Int × List Int)) : Prop := ∃ r A c X, X.map ab = L ∧ Parts wr w.heap.size r A c X ∧ (∀ k, r = some k → w.heap.size ≤ k) ∧ (∀ x ∈ X, ∀ k, x.r = some k → w.heap.size ≤ k) ∧ New w wr
theorem LayX.at_ {w wr : World} {L : List (Int × List Int)} (h : LayX w wr L) : ∃ F, At wr w.heap.size F L ∧ ∀ k, F k → w.heap.size ≤ k := by
  obtain ⟨r, A, c, X, hX, hp, h1, h2, h3⟩ := h
  exact ⟨fun k => w.heap.size ≤ k ∧ k < wr.heap.size, ⟨⟨r, A, c, X, hX, hp, fun k hk => ⟨h1 k hk, hp.row.lt (by decide) k hk⟩, fun x hx k hk => ⟨h2 x hx k hk, (hp.qs x hx).lt (by decide) k hk⟩⟩, ⟨Nat.le_refl _, hp.blk.lt⟩, fun k hk => hk.2⟩, fun k hk => hk.1⟩
theorem LayX.fresh {w wr : World} {L : List (Int × List Int)} (h : LayX w wr L) : New w wr := by
  obtain ⟨r, A, c, X, hX, hp, h1, h2, h3⟩ := h
  exact h3
theorem LayX.new {w wr w' : World} {L : List (Int × List Int)} (h : LayX w wr L) (hk : New wr w') : LayX w w' L := by
  obtain ⟨r, A, c, X, hX, hp, h1, h2, h3⟩ := h
  exact ⟨r, A, c, X, hX, hp.new hk, h1, h2, h3.trans hk⟩
theorem LayX.waits {w wr : World} {L : List (Int × List Int)} (h : LayX w wr L) (p : Int) : Calls Try.prog 25 #[.pointer (some ⟨w.heap.size, 0, none⟩), .int .i64 p] wr fun e w' => e = .returned (.tuple #[.int .i64 (waitAt L p).1, .bool (waitAt L p).2]) ∧ LayX w w' L := by
  have h0 := h
  obtain ⟨F, h1, -⟩ := h.at_
  refine (waits_any h1 p).mono ?_
  rintro e w' ⟨rfl, hn⟩
  exact ⟨rfl, h0.new hn⟩
end Go.Proofs.Ytjjlemkmdldljaa.Locks
