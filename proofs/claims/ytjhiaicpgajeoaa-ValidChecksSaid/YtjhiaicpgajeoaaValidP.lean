/- Programs that hold locks (layer 8), plainly: stands, what follows them, what is wrong with them, how long a hold lasts. No program in sight. -/
import Derived.Test.YtjhiaicpgajeoaaCodeP
namespace Go.ValidP
open Go.CodeP
set_option linter.unusedVariables false
/-- A place, and which locks are held there, a bit each. -/
abbrev Stand := Nat × Nat
def lockB (h i : Nat) : Nat := h ||| 2 ^ i
def unlockB (h i : Nat) : Nat := h &&& (255 ^^^ 2 ^ i)
/-- The stands that follow one. -/
def nexts (l : List Ins) (s : Stand) : List Stand :=
  match l[s.1]? with
  | none => []
  | some x =>
    if x.op = 0 then []
    else if x.op = 22 then [(x.imm.toNat, s.2)]
    else if x.op = 23 then [(x.imm.toNat, s.2), (s.1 + 1, s.2)]
    else if x.op = 29 then [(s.1 + 1, lockB s.2 x.imm.toNat)]
    else if x.op = 30 then [(s.1 + 1, unlockB s.2 x.imm.toNat)]
    else [(s.1 + 1, s.2)]
/-- What is wrong with a stand. -/
def wrongS (l : List Ins) (s : Stand) : Int :=
  match l[s.1]? with
  | none => 0
  | some x =>
    if x.op = 29 then (if 0 < s.2 >>> x.imm.toNat then 14 else 0)
    else if x.op = 30 then (if (s.2 >>> x.imm.toNat) % 2 = 0 then 14 else 0)
    else if x.op = 24 ∨ x.op = 25 ∨ x.op = 28 then (if s.2 ≠ 0 then 16 else 0)
    else 0
/-- The stands of a program: those that come from the first one, by stands that are not wrong. -/
inductive Reach (l : List Ins) : Stand → Prop
  | first : Reach l (0, 0)
  | next {s t : Stand} : Reach l s → wrongS l s = 0 → t ∈ nexts l s → Reach l t
/-- How many stands the longest row has that begins at one; by fuel. -/
def dep (l : List Ins) : Nat → Stand → Option Nat
  | 0, s => if s.2 = 0 then some 0 else none
  | f + 1, s => if s.2 = 0 then some 0 else ((nexts l s).mapM (dep l f)).map fun ks => 1 + ks.foldr max 0
theorem mapM_some {α β : Type} {f : α → Option β} : ∀ {l : List α} {ks : List β}, l.mapM f = some ks → (∀ x ∈ l, ∃ k, f x = some k ∧ k ∈ ks) ∧ ks.length = l.length
  | [], ks, h => by
    simp at h
    subst h
    exact ⟨by simp, rfl⟩
  | x :: l, ks, h => by
    rw [List.mapM_cons] at h
    cases hx : f x with
    | none => rw [hx] at h; cases h
    | some k =>
      rw [hx] at h
      cases hl : l.mapM f with
      | none => rw [hl] at h; cases h
      | some ks' =>
        rw [hl] at h
        injection h with h
        subst h
        obtain ⟨h1, h2⟩ := mapM_some hl
        refine ⟨fun y hy => ?_, by simp [h2]⟩
        rcases List.mem_cons.1 hy with rfl | hy
        · exact ⟨k, hx, List.mem_cons_self ..⟩
        · obtain ⟨k', e1, e2⟩ := h1 y hy
          exact ⟨k', e1, List.mem_cons_of_mem _ e2⟩
theorem mapM_congr {α β : Type} {f g : α → Option β} : ∀ {l : List α} {ks : List β}, l.mapM f = some ks → (∀ x ∈ l, ∀ k, f x = some k → g x = some k) → l.mapM g = some ks
  | [], ks, h, _ => h
  | x :: l, ks, h, hfg => by
    rw [List.mapM_cons] at h ⊢
    cases hx : f x with
    | none => rw [hx] at h; cases h
    | some k =>
      rw [hx] at h
      rw [hfg x (List.mem_cons_self ..) k hx]
      cases hl : l.mapM f with
      | none => rw [hl] at h; cases h
      | some ks' =>
        rw [hl] at h
        rw [mapM_congr hl (fun y hy => hfg y (List.mem_cons_of_mem _ hy))]
        exact h
theorem dep_step (l : List Ins) : ∀ (f : Nat) (s : Stand) (k : Nat), dep l f s = some k → dep l (f + 1) s = some k
  | 0, s, k, h => by
    unfold dep at h ⊢
    by_cases h0 : s.2 = 0
    · rw [if_pos h0] at h ⊢; exact h
    · rw [if_neg h0] at h; cases h
  | f + 1, s, k, h => by
    unfold dep at h ⊢
    by_cases h0 : s.2 = 0
    · rw [if_pos h0] at h ⊢; exact h
    · rw [if_neg h0] at h ⊢
      cases hm : (nexts l s).mapM (dep l f) with
      | none => rw [hm] at h; cases h
      | some ks =>
        rw [hm] at h
        rw [mapM_congr hm (fun t _ k hk => dep_step l f t k hk)]
        exact h
theorem dep_mono (l : List Ins) {f g : Nat} (h : f ≤ g) {s : Stand} {k : Nat} (hk : dep l f s = some k) : dep l g s = some k := by
  induction g with
  | zero => obtain rfl : f = 0 := by omega
            exact hk
  | succ g ih =>
    by_cases e : f = g + 1
    · subst e; exact hk
    · exact dep_step l g s k (ih (by omega))
/-- A row that begins at a stand has an end; the longest has so many stands. -/
def Long (l : List Ins) (s : Stand) (k : Nat) : Prop := ∃ f, dep l f s = some k
def Fin (l : List Ins) (s : Stand) : Prop := ∃ k, Long l s k
theorem Long.det {l : List Ins} {s : Stand} {k k' : Nat} (h : Long l s k) (h' : Long l s k') : k = k' := by
  obtain ⟨f, hf⟩ := h
  obtain ⟨g, hg⟩ := h'
  have h1 := dep_mono l (Nat.le_max_left f g) hf
  have h2 := dep_mono l (Nat.le_max_right f g) hg
  rw [h1] at h2
  exact Option.some.inj h2
theorem long_zero (l : List Ins) (p : Nat) : Long l (p, 0) 0 := ⟨0, rfl⟩
theorem le_max {ks : List Nat} {k : Nat} (h : k ∈ ks) : k ≤ ks.foldr max 0 := by
  induction ks with
  | nil => cases h
  | cons a l ih =>
    rcases List.mem_cons.1 h with rfl | h
    · exact Nat.le_max_left _ _
    · exact Nat.le_trans (ih h) (Nat.le_max_right _ _)
/-- What follows a held stand lasts less long. -/
theorem Long.next {l : List Ins} {s t : Stand} {k : Nat} (h : Long l s k) (h0 : s.2 ≠ 0) (ht : t ∈ nexts l s) : ∃ j, Long l t j ∧ j < k := by
  obtain ⟨f, hf⟩ := h
  cases f with
  | zero => unfold dep at hf; rw [if_neg h0] at hf; cases hf
  | succ f =>
    unfold dep at hf
    rw [if_neg h0] at hf
    cases hm : (nexts l s).mapM (dep l f) with
    | none => rw [hm] at hf; cases hf
    | some ks =>
      rw [hm] at hf
      obtain ⟨j, e1, e2⟩ := (mapM_some hm).1 t ht
      refine ⟨j, ⟨f, e1⟩, ?_⟩
      have := le_max e2
      simp only [Option.map_some, Option.some.injEq] at hf
      omega
/-- A held stand by what follows it. -/
theorem long_of {l : List Ins} {s : Stand} {ks : List Nat} (h0 : s.2 ≠ 0) (hl : ks.length = (nexts l s).length) (hk : ∀ i (h1 : i < (nexts l s).length) (h2 : i < ks.length), Long l (nexts l s)[i] ks[i]) : Long l s (1 + ks.foldr max 0) := by
  have key : ∀ (ts : List Stand) (ks : List Nat), ks.length = ts.length → (∀ i (h1 : i < ts.length) (h2 : i < ks.length), Long l ts[i] ks[i]) → ∃ f, ts.mapM (dep l f) = some ks := by
    intro ts
    induction ts with
    | nil => intro ks h _; obtain rfl : ks = [] := List.eq_nil_of_length_eq_zero h; exact ⟨0, rfl⟩
    | cons t ts ih =>
      intro ks h hk
      cases ks with
      | nil => cases h
      | cons k ks =>
        obtain ⟨f, hf⟩ := ih ks (by simpa using h) (fun i h1 h2 => hk (i + 1) (by simp; omega) (by simp; omega))
        obtain ⟨g, hg⟩ := hk 0 (by simp) (by simp)
        refine ⟨max f g, ?_⟩
        rw [List.mapM_cons, show dep l (max f g) t = some k from dep_mono l (Nat.le_max_right _ _) hg, mapM_congr hf (fun x _ k hk => dep_mono l (Nat.le_max_left _ _) hk)]
        rfl
  obtain ⟨f, hf⟩ := key _ ks hl hk
  refine ⟨f + 1, ?_⟩
  unfold dep
  rw [if_neg h0, hf]
  rfl
/-- A row of held stands, from one to another. -/
inductive Row (l : List Ins) : Stand → Stand → Prop
  | one {s t : Stand} : s.2 ≠ 0 → t ∈ nexts l s → Row l s t
  | more {s t u : Stand} : s.2 ≠ 0 → t ∈ nexts l s → Row l t u → Row l s u
theorem Row.less {l : List Ins} {s t : Stand} (h : Row l s t) : ∀ {k : Nat}, Long l s k → ∃ j, Long l t j ∧ j < k := by
  induction h with
  | one h0 ht => exact fun hk => hk.next h0 ht
  | more h0 ht _ ih =>
    intro k hk
    obtain ⟨j, hj, hlt⟩ := hk.next h0 ht
    obtain ⟨i, hi, hlt'⟩ := ih hj
    exact ⟨i, hi, by omega⟩
/-- A ring has no end. -/
theorem Row.endless {l : List Ins} {s : Stand} (h : Row l s s) : ¬ Fin l s := fun ⟨k, hk⟩ => by
  obtain ⟨j, hj, hlt⟩ := h.less hk
  have := hj.det hk
  omega
/-- .. nor what leads to what has none. -/
theorem Row.to_endless {l : List Ins} {s t : Stand} (h : Row l s t) (ht : ¬ Fin l t) : ¬ Fin l s := fun ⟨k, hk⟩ => by
  obtain ⟨j, hj, -⟩ := h.less hk
  exact ht ⟨j, hj⟩
end Go.ValidP
