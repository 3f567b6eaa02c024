/- How long a hold lasts, reckoned with a memory (layer 8). No program in sight. -/
import Derived.Test.YtjhiaicpgajeoaaValidQ
namespace Go.ValidP
open Go.CodeP
set_option linter.unusedVariables false
theorem Row.snoc {l : List Ins} {s t u : Stand} (h : Row l s t) (h0 : t.2 ≠ 0) (hu : u ∈ nexts l t) : Row l s u := by
  induction h with
  | one h1 ht => exact .more h1 ht (.one h0 hu)
  | more h1 ht _ ih => exact .more h1 ht (ih h0 hu)
/-- What is remembered of stands: how long (from 0 on), that there is no end (-1), that it is being reckoned (-2). -/
structure Memo (l : List Ins) (u : Stand → Option Int) (stack : List Stand) : Prop where
  long : ∀ s n, u s = some n → 0 ≤ n → Long l s n.toNat
  endless : ∀ s, u s = some (-1) → ¬ Fin l s
  asked : ∀ s, u s = some (-2) ↔ s ∈ stack
  only : ∀ s n, u s = some n → -2 ≤ n
/-- What a reckoning answers. -/
def Answer (l : List Ins) (s : Stand) (v : Int) : Prop := (0 ≤ v ∧ Long l s v.toNat) ∨ (v = -1 ∧ ¬ Fin l s)
/-- What was remembered stays. -/
def More (u u' : Stand → Option Int) : Prop := ∀ s n, u s = some n → u' s = some n
theorem More.refl (u : Stand → Option Int) : More u u := fun _ _ h => h
theorem More.trans {u v w : Stand → Option Int} (h : More u v) (h' : More v w) : More u w := fun s n e => h' s n (h s n e)
theorem Memo.empty (l : List Ins) : Memo l (fun _ => none) [] where
  long _ _ h _ := by cases h
  endless _ h := by cases h
  asked s := by
    constructor
    · intro h; cases h
    · intro h; cases h
  only _ _ h := by cases h
section
variable {l : List Ins} {u u' : Stand → Option Int} {stack : List Stand} {s : Stand}
theorem Answer.zero (p : Nat) : Answer l (p, 0) 0 := .inl ⟨Int.le_refl _, long_zero l p⟩
/-- It is remembered. -/
theorem Memo.known (h : Memo l u stack) {n : Int} (hn : u s = some n) (h2 : n ≠ -2) : Answer l s n := by
  have := h.only s n hn
  by_cases c : 0 ≤ n
  · exact .inl ⟨c, h.long s n hn c⟩
  · obtain rfl : n = -1 := by omega
    exact .inr ⟨rfl, h.endless s hn⟩
/-- It is being reckoned: a ring. -/
theorem Memo.ring (h : Memo l u stack) (hn : u s = some (-2)) (hr : ∀ a ∈ stack, Row l a s) : Answer l s (-1) :=
  .inr ⟨rfl, (hr s ((h.asked s).1 hn)).endless⟩
/-- It begins to be reckoned. -/
theorem Memo.ask (h : Memo l u stack) (hn : u s = none) (hu : ∀ x, u' x = if x = s then some (-2) else u x) : Memo l u' (s :: stack) where
  long x n hx h0 := by
    rw [hu] at hx
    by_cases e : x = s
    · rw [if_pos e] at hx; injection hx with hx; omega
    · rw [if_neg e] at hx; exact h.long x n hx h0
  endless x hx := by
    rw [hu] at hx
    by_cases e : x = s
    · rw [if_pos e] at hx; injection hx with hx; omega
    · rw [if_neg e] at hx; exact h.endless x hx
  asked x := by
    rw [hu]
    by_cases e : x = s
    · rw [if_pos e]; exact ⟨fun _ => by rw [e]; exact List.mem_cons_self .., fun _ => rfl⟩
    · rw [if_neg e, h.asked]
      exact ⟨fun hx => List.mem_cons_of_mem _ hx, fun hx => by rcases List.mem_cons.1 hx with hx | hx; exact absurd hx e; exact hx⟩
  only x n hx := by
    rw [hu] at hx
    by_cases e : x = s
    · rw [if_pos e] at hx; injection hx with hx; omega
    · rw [if_neg e] at hx; exact h.only x n hx
/-- It was reckoned. -/
theorem Memo.tell (h : Memo l u (s :: stack)) (hs : s ∉ stack) {v : Int} (hv : Answer l s v) (hu : ∀ x, u' x = if x = s then some v else u x) : Memo l u' stack where
  long x n hx h0 := by
    rw [hu] at hx
    by_cases e : x = s
    · rw [if_pos e] at hx; injection hx with hx; subst hx; subst e
      rcases hv with hv | hv
      · exact hv.2
      · omega
    · rw [if_neg e] at hx; exact h.long x n hx h0
  endless x hx := by
    rw [hu] at hx
    by_cases e : x = s
    · rw [if_pos e] at hx; injection hx with hx; subst hx; subst e
      rcases hv with hv | hv
      · omega
      · exact hv.2
    · rw [if_neg e] at hx; exact h.endless x hx
  asked x := by
    rw [hu]
    by_cases e : x = s
    · rw [if_pos e]
      refine ⟨fun hx => ?_, fun hx => absurd (e ▸ hx) hs⟩
      injection hx with hx
      rcases hv with hv | hv <;> omega
    · rw [if_neg e, h.asked]
      exact ⟨fun hx => by rcases List.mem_cons.1 hx with hx | hx; exact absurd hx e; exact hx, fun hx => List.mem_cons_of_mem _ hx⟩
  only x n hx := by
    rw [hu] at hx
    by_cases e : x = s
    · rw [if_pos e] at hx; injection hx with hx; subst hx
      rcases hv with hv | hv <;> omega
    · rw [if_neg e] at hx; exact h.only x n hx
/-- One of those that follow has no end. -/
theorem Answer.stop {t : Stand} (h0 : s.2 ≠ 0) (ht : t ∈ nexts l s) (h : ¬ Fin l t) : Answer l s (-1) :=
  .inr ⟨rfl, (Row.one h0 ht).to_endless h⟩
/-- The longest of those that follow so far. -/
def Most (l : List Ins) (ts : List Stand) (m : Int) : Prop := ∃ ks : List Nat, ks.length = ts.length ∧ (∀ i (h1 : i < ts.length) (h2 : i < ks.length), Long l ts[i] ks[i]) ∧ m = (ks.foldr max 0 : Nat)
theorem Most.none : Most l [] 0 := ⟨[], rfl, fun i h => absurd h (Nat.not_lt_zero _), rfl⟩
theorem foldr_snoc (ks : List Nat) (k : Nat) : (ks ++ [k]).foldr max 0 = max (ks.foldr max 0) k := by
  induction ks with
  | nil => simp
  | cons a l ih => rw [List.cons_append, List.foldr_cons, ih, List.foldr_cons, Nat.max_assoc]
theorem Most.snoc {ts : List Stand} {t : Stand} {m n : Int} (h : Most l ts m) (hn : 0 ≤ n) (ht : Long l t n.toNat) : Most l (ts ++ [t]) (max m n) := by
  obtain ⟨ks, h1, h2, h3⟩ := h
  refine ⟨ks ++ [n.toNat], by simp [h1], fun i g1 g2 => ?_, ?_⟩
  · by_cases e : i < ts.length
    · rw [List.getElem_append_left e, List.getElem_append_left (by omega)]
      exact h2 i e (by omega)
    · have hi : i = ts.length := by simp at g1; omega
      subst hi
      rw [List.getElem_append_right (Nat.le_refl _), List.getElem_append_right (by omega)]
      simpa [h1] using ht
  · rw [foldr_snoc, h3]
    omega
theorem Most.answer {m : Int} (h : Most l (nexts l s) m) (h0 : s.2 ≠ 0) : Answer l s (m + 1) := by
  obtain ⟨ks, h1, h2, h3⟩ := h
  have := long_of h0 h1 h2
  refine .inl ⟨by omega, ?_⟩
  rw [h3, show ((ks.foldr max 0 : Nat) : Int) + 1 = ((1 + ks.foldr max 0 : Nat) : Int) by omega, Int.toNat_natCast]
  exact this
theorem Most.nonneg {ts : List Stand} {m : Int} (h : Most l ts m) : 0 ≤ m := by
  obtain ⟨ks, -, -, h3⟩ := h
  omega
end
end Go.ValidP
