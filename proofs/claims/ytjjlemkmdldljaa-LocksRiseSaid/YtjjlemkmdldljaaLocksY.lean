/- What package locks' writes do to how locks lie; New (layer 12). -/
import Derived.Test.YtjjlemkmdldljaaLocksX
namespace Go.Proofs.Ytjjlemkmdldljaa.Locks
open Go.RowKit Go.Fb
set_option linter.unusedVariables false
/-- What has grown. -/
def grow (F : Nat → Prop) (w w' : World) (k : Nat) : Prop := (F k ∨ w.heap.size ≤ k) ∧ k < w'.heap.size
/-- A method's end: the locks stand so, and nothing else has turned. -/
def Ends (w : World) (b : Nat) (F : Nat → Prop) (L : List (Int × List Int)) (v : Value) (e : Ending) (w' : World) : Prop := e = .returned v ∧ At w' b (grow F w w') L ∧ Kept F w w'
section
variable {w w2 w3 : World} {b : Nat} {F : Nat → Prop} {X : List Lk} {L : List (Int × List Int)} {r : Option Nat} {A : Option Addr} {c : Nat}
theorem tyLocks : SliceTy Try.prog 52 56 2 32 := by
  obtain ⟨i, hi, hz, hs, hb⟩ := info_parts (P := Try.prog) (e := 56) (z := .agg #[.int .i64 0, .slice none 0 0]) (size := 2) (bytes := 32) (by kernel_rfl)
  exact ⟨Try.underlying52, ⟨i, _, hi, hz, hs, hb, rfl⟩, by decide⟩
theorem tyInts : SliceTy Try.prog 35 3 1 8 := by
  obtain ⟨i, hi, hz, hs, hb⟩ := info_parts (P := Try.prog) (e := 3) (z := .int .i64 0) (size := 1) (bytes := 8) (by kernel_rfl)
  exact ⟨Try.underlying35, ⟨i, _, hi, hz, hs, hb, rfl⟩, by decide⟩
theorem At.still {w' : World} (h : At w b F L) (hk : New w w') : At w' b (grow F w w') L := by
  obtain ⟨⟨r, A, c, X, hX, hp, h1, h2⟩, h3, h4⟩ := h
  have hs := hk.size
  exact ⟨⟨r, A, c, X, hX, hp.new hk, fun k hk' => ⟨.inl (h1 k hk'), Nat.lt_of_lt_of_le (h4 k (h1 k hk')) hs⟩, fun x hx k hk' => ⟨.inl (h2 x hx k hk'), Nat.lt_of_lt_of_le (h4 k (h2 x hx k hk')) hs⟩⟩, ⟨.inl h3, Nat.lt_of_lt_of_le (h4 b h3) hs⟩, fun k hk' => hk'.2⟩
theorem Parts.push (hp : Parts w b r A c X) {y : Lk} (hy : y.r = none ∧ y.A = none ∧ y.c = 0 ∧ y.q = []) {r' : Option Nat} {A' : Option Addr} {c' : Nat} (hrow : Row w2 2 r' A' (X ++ [y]).length c' ((X ++ [y]).flatMap lkC)) (hk : Kept (fun k => r = some k) w w2) (hr : ∀ k, r' = some k → r = some k ∨ w.heap.size ≤ k) :
    Parts (w2.setCell ⟨b, 0, none⟩ (.slice A' (X ++ [y]).length c')) b r' A' c' (X ++ [y]) := by
  have hbl := hp.blk.lt
  have hb2 := hp.blk.kept hk hp.d1
  have hs := hb2.set (i := 0) (.slice A' (X ++ [y]).length c')
  have hset := Kept.set1 w2 b 0 (.slice A' (X ++ [y]).length c')
  have hr1 : r' ≠ some b := fun e => by
    rcases hr b e with h | h
    · exact hp.d1 h
    · omega
  have hql : ∀ x ∈ X, ∀ k, x.r = some k → k < w.heap.size := fun x hx k hk => (hp.qs x hx).lt (by decide) k hk
  refine ⟨by simpa using hs, hrow.of_kept (by decide) hset (fun k hk e => by subst e; exact hr1 hk), ?_, hr1, ?_, ?_⟩
  · intro x hx
    rcases List.mem_append.1 hx with hx | hx
    · exact ((hp.qs x hx).of_kept (by decide) hk (fun k h => (hp.d2 x hx k h).2)).of_kept (by decide) hset (fun k h e => (hp.d2 x hx k h).1 e)
    · rw [List.mem_singleton.1 hx, hy.1, hy.2.1, hy.2.2.1, hy.2.2.2]; exact Row.nil _ _
  · intro x hx k hk
    rcases List.mem_append.1 hx with hx | hx
    · refine ⟨(hp.d2 x hx k hk).1, fun e => ?_⟩
      rcases hr k e with h | h
      · exact (hp.d2 x hx k hk).2 h
      · have := hql x hx k hk; omega
    · rw [List.mem_singleton.1 hx, hy.1] at hk; cases hk
  · intro i j hi hj hij k h1 h2
    by_cases gi : i < X.length
    · by_cases gj : j < X.length
      · rw [List.getElem_append_left gi] at h1
        rw [List.getElem_append_left gj] at h2
        exact hp.d3 i j gi gj hij k h1 h2
      · rw [List.getElem_append_right (by omega)] at h2
        simp [hy.1] at h2
    · rw [List.getElem_append_right (by omega)] at h1
      simp [hy.1] at h1
theorem Parts.put_lock (hp : Parts w b r A c X) {j : Nat} (hj : j < X.length) {y : Lk} (hq : Row w2 1 y.r y.A y.q.length y.c (y.q.map (Value.int .i64))) (hk : Kept (fun k => X[j].r = some k) w w2) (hy : ∀ k, y.r = some k → X[j].r = some k ∨ w.heap.size ≤ k)
    (hrow : Row w3 2 r A X.length c ((X.set j y).flatMap lkC)) (hk3 : Kept (fun k => r = some k) w2 w3) : Parts w3 b r A c (X.set j y) := by
  have hbl := hp.blk.lt
  have hql : ∀ x ∈ X, ∀ k, x.r = some k → k < w.heap.size := fun x hx k hk => (hp.qs x hx).lt (by decide) k hk
  have hrl := hp.row.lt (by decide)
  have hjm : X[j] ∈ X := List.getElem_mem hj
  have hyb : ∀ k, y.r = some k → k ≠ b ∧ r ≠ some k := fun k h => by
    rcases hy k h with e | e
    · exact hp.d2 _ hjm k e
    · exact ⟨by omega, fun e' => by have := hrl k e'; omega⟩
  have hget : ∀ i (hi : i < (X.set j y).length), i ≠ j → (X.set j y)[i] = X[i]'(by simpa using hi) := fun i hi hij => List.getElem_set_ne (Ne.symm hij) _
  have hgj : ∀ (hi : j < (X.set j y).length), (X.set j y)[j] = y := fun hi => List.getElem_set_self _
  have hmem : ∀ x ∈ X.set j y, x = y ∨ ∃ i, ∃ hi : i < X.length, i ≠ j ∧ X[i] = x := fun x hx => by
    obtain ⟨i, hi, e⟩ := List.mem_iff_getElem.1 hx
    by_cases g : i = j
    · subst g; rw [hgj] at e; exact .inl e.symm
    · rw [hget i hi g] at e; exact .inr ⟨i, by simpa using hi, g, e⟩
  refine ⟨?_, by rw [List.length_set]; exact hrow, ?_, hp.d1, ?_, ?_⟩
  · rw [List.length_set]
    exact (hp.blk.kept hk (fun e => (hp.d2 _ hjm b e).1 rfl)).kept hk3 hp.d1
  · intro x hx
    rcases hmem x hx with rfl | ⟨i, hi, g, rfl⟩
    · exact hq.of_kept (by decide) hk3 (fun k h => (hyb k h).2)
    · have hm := List.getElem_mem hi
      exact ((hp.qs _ hm).of_kept (by decide) hk (fun k h e => hp.d3 i j hi hj g k h e)).of_kept (by decide) hk3 (fun k h => (hp.d2 _ hm k h).2)
  · intro x hx
    rcases hmem x hx with rfl | ⟨i, hi, g, rfl⟩
    · exact hyb
    · exact hp.d2 _ (List.getElem_mem hi)
  · intro i1 i2 h1 h2 h12 k e1 e2
    have l1 : i1 < X.length := by simpa using h1
    have l2 : i2 < X.length := by simpa using h2
    by_cases g1 : i1 = j
    · subst g1
      rw [hgj] at e1
      rw [hget i2 h2 (Ne.symm h12)] at e2
      rcases hy k e1 with e | e
      · exact hp.d3 i1 i2 l1 l2 h12 k e e2
      · have := hql _ (List.getElem_mem l2) k e2; omega
    · rw [hget i1 h1 g1] at e1
      by_cases g2 : i2 = j
      · subst g2
        rw [hgj] at e2
        rcases hy k e2 with e | e
        · exact hp.d3 i1 i2 l1 l2 h12 k e1 e
        · have := hql _ (List.getElem_mem l1) k e1; omega
      · rw [hget i2 h2 g2] at e2
        exact hp.d3 i1 i2 l1 l2 h12 k e1 e2
theorem Parts.put_own (hp : Parts w b r A c X) {j : Nat} (hj : j < X.length) {g o : Nat} (hr : r = some g) (hA : A = some ⟨g, o, none⟩) (p : Int) : Parts (w.setCell ⟨g, o + j * 2, none⟩ (.int .i64 p)) b r A c (X.set j { X[j] with own := p }) := by
  refine hp.put_lock hj (w2 := w) (y := { X[j] with own := p }) (by exact hp.qs X[j] (List.getElem_mem hj)) (Kept.refl _ _) (fun k h => .inl h) ?_ ((Kept.refl _ _).setCell (.inr hr) _)
  have := hp.row.set hA (j := j * 2) (by omega) (.int .i64 p)
  rw [show j * 2 = j * 2 + 0 from rfl, flatMap_set (f := lkC) (size := 2) X (fun x _ => rfl) j hj 0 (by decide) _ { X[j] with own := p } rfl] at this
  exact this
theorem Parts.put_queue (hp : Parts w b r A c X) {j : Nat} (hj : j < X.length) {g o : Nat} (hr : r = some g) (hA : A = some ⟨g, o, none⟩) {r' : Option Nat} {A' : Option Addr} {c' : Nat} {q' : List Int} (hq : Row w2 1 r' A' q'.length c' (q'.map (Value.int .i64))) (hk : Kept (fun k => X[j].r = some k) w w2)
    (hy : ∀ k, r' = some k → X[j].r = some k ∨ w.heap.size ≤ k) : Parts (w2.setCell ⟨g, o + j * 2 + 1, none⟩ (.slice A' q'.length c')) b r A c (X.set j ⟨X[j].own, r', A', c', q'⟩) := by
  refine hp.put_lock hj (w2 := w2) (y := ⟨X[j].own, r', A', c', q'⟩) hq hk hy ?_ ((Kept.refl _ _).setCell (.inr hr) _)
  have := (hp.row.of_kept (by decide) hk (fun k h e => (hp.d2 _ (List.getElem_mem hj) k e).2 h)).set hA (j := j * 2 + 1) (by omega) (.slice A' q'.length c')
  rw [flatMap_set (f := lkC) (size := 2) X (fun x _ => rfl) j hj 1 (by decide) _ ⟨X[j].own, r', A', c', q'⟩ rfl] at this
  exact this
end
end Go.Proofs.Ytjjlemkmdldljaa.Locks
