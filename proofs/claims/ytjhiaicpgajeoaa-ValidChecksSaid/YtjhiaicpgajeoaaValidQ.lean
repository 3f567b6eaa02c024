/- Stands lie in bounds; the search for all of them (layer 8). No program in sight. -/
import Derived.Test.YtjhiaicpgajeoaaValidP
namespace Go.ValidP
open Go.CodeP
set_option linter.unusedVariables false
theorem number_bounds {x : Ins} {n locks : Int} (h : check x n locks = 0) : (x.op = 22 ∨ x.op = 23 → 0 ≤ x.imm ∧ x.imm ≤ n) ∧ (x.op = 29 ∨ x.op = 30 → 0 ≤ x.imm ∧ x.imm < locks) := by
  unfold check wrong at h
  by_cases h0 : x.op < 0 ∨ 34 ≤ x.op
  · rw [if_pos h0] at h; simp at h
  rw [if_neg h0] at h
  by_cases h1 : reg (hasA x.op) x.a ≠ 0
  · rw [if_pos h1] at h; exact absurd h h1
  rw [if_neg h1] at h
  by_cases h2 : reg (hasB x.op) x.b ≠ 0
  · rw [if_pos h2] at h; exact absurd h h2
  rw [if_neg h2] at h
  by_cases h3 : reg (hasC x.op) x.c ≠ 0
  · rw [if_pos h3] at h; exact absurd h h3
  rw [if_neg h3] at h
  simp only at h
  unfold number at h
  by_cases h4 : hasI x.op = false ∧ x.imm ≠ 0
  · rw [if_pos h4] at h; simp at h
  rw [if_neg h4] at h
  by_cases h5 : (x.op = 22 ∨ x.op = 23) ∧ (x.imm < 0 ∨ n < x.imm)
  · rw [if_pos h5] at h; simp at h
  rw [if_neg h5] at h
  by_cases h6 : (x.op = 29 ∨ x.op = 30) ∧ (x.imm < 0 ∨ locks ≤ x.imm)
  · rw [if_pos h6] at h; simp at h
  exact ⟨fun e => by by_cases a : x.imm < 0 ∨ n < x.imm; exact absurd ⟨e, a⟩ h5; omega, fun e => by by_cases a : x.imm < 0 ∨ locks ≤ x.imm; exact absurd ⟨e, a⟩ h6; omega⟩
/-- A stand's place and set are small. -/
def Small (l : List Ins) (s : Stand) : Prop := s.1 ≤ l.length ∧ s.2 < 256
theorem nexts_small {l : List Ins} {locks : Int} (hl : locks ≤ 8) (hc : ∀ x ∈ l, check x l.length locks = 0) {s t : Stand} (hs : Small l s) (ht : t ∈ nexts l s) : Small l t := by
  unfold nexts at ht
  cases hx : l[s.1]? with
  | none => rw [hx] at ht; cases ht
  | some x =>
    rw [hx] at ht
    obtain ⟨hi, rfl⟩ := List.getElem?_eq_some_iff.1 hx
    have hb := number_bounds (hc _ (List.getElem_mem hi))
    simp only at ht
    have hstep : Small l (s.1 + 1, s.2) := ⟨hi, hs.2⟩
    by_cases e0 : l[s.1].op = 0
    · rw [if_pos e0] at ht; cases ht
    rw [if_neg e0] at ht
    by_cases e1 : l[s.1].op = 22
    · rw [if_pos e1] at ht
      have := hb.1 (.inl e1)
      rw [List.mem_singleton.1 ht]
      exact ⟨by show l[s.1].imm.toNat ≤ _; omega, hs.2⟩
    rw [if_neg e1] at ht
    by_cases e2 : l[s.1].op = 23
    · rw [if_pos e2] at ht
      have := hb.1 (.inr e2)
      rcases List.mem_cons.1 ht with rfl | ht
      · exact ⟨by show l[s.1].imm.toNat ≤ _; omega, hs.2⟩
      · rw [List.mem_singleton.1 ht]; exact hstep
    rw [if_neg e2] at ht
    by_cases e3 : l[s.1].op = 29
    · rw [if_pos e3] at ht
      have := hb.2 (.inl e3)
      rw [List.mem_singleton.1 ht]
      refine ⟨hi, ?_⟩
      show s.2 ||| 2 ^ l[s.1].imm.toNat < 2 ^ 8
      exact Nat.or_lt_two_pow hs.2 (Nat.pow_lt_pow_right (by decide) (by omega))
    rw [if_neg e3] at ht
    by_cases e4 : l[s.1].op = 30
    · rw [if_pos e4] at ht
      rw [List.mem_singleton.1 ht]
      refine ⟨hi, ?_⟩
      show s.2 &&& _ < 256
      exact Nat.lt_of_le_of_lt Nat.and_le_left hs.2
    rw [if_neg e4] at ht
    rw [List.mem_singleton.1 ht]
    exact hstep
theorem Reach.small {l : List Ins} {locks : Int} (hl : locks ≤ 8) (hc : ∀ x ∈ l, check x l.length locks = 0) {s : Stand} (h : Reach l s) : Small l s := by
  induction h with
  | first => exact ⟨Nat.zero_le _, by decide⟩
  | next _ _ ht ih => exact nexts_small hl hc ih ht
/-- A search that is under way: which stands were met, which of them wait to be looked at, and the wrong one that stands first. -/
structure Search (l : List Ins) (met todo : Stand → Prop) (bad : Int) (at_ : Nat) : Prop where
  first : met (0, 0)
  sound : ∀ s, met s → Reach l s
  wait : ∀ s, todo s → met s
  closed : ∀ s, met s → ¬ todo s → wrongS l s = 0 → ∀ t ∈ nexts l s, met t
  fine : bad = 0 → ∀ s, met s → ¬ todo s → wrongS l s = 0
  found : bad ≠ 0 → (∃ s, met s ∧ s.1 = at_ ∧ wrongS l s = bad) ∧ ∀ s, met s → ¬ todo s → wrongS l s ≠ 0 → at_ ≤ s.1
/-- .. while it looks at what follows a stand. -/
structure Looks (l : List Ins) (met todo : Stand → Prop) (bad : Int) (at_ : Nat) (s : Stand) (done : List Stand) : Prop where
  here : met s
  right : wrongS l s = 0
  first : met (0, 0)
  sound : ∀ s, met s → Reach l s
  wait : ∀ s, todo s → met s
  closed : ∀ s', met s' → ¬ todo s' → s' ≠ s → wrongS l s' = 0 → ∀ t ∈ nexts l s', met t
  was : ∀ t ∈ done, met t
  fine : bad = 0 → ∀ s, met s → ¬ todo s → wrongS l s = 0
  found : bad ≠ 0 → (∃ s, met s ∧ s.1 = at_ ∧ wrongS l s = bad) ∧ ∀ s, met s → ¬ todo s → wrongS l s ≠ 0 → at_ ≤ s.1
theorem Search.start (l : List Ins) : Search l (fun s => s = (0, 0)) (fun s => s = (0, 0)) 0 0 :=
  ⟨rfl, fun s h => h ▸ .first, fun s h => h, fun s h h' => absurd h h', fun _ s h h' => absurd h h', fun h => absurd rfl h⟩
section
variable {l : List Ins} {met todo met' todo' : Stand → Prop} {bad : Int} {at_ : Nat} {s t : Stand} {done : List Stand}
/-- A stand that is not wrong is looked at. -/
theorem Search.pop (h : Search l met todo bad at_) (hs : todo s) (h1 : ∀ x, todo x → x = s ∨ todo' x) (h2 : ∀ x, todo' x → todo x) (hw : wrongS l s = 0) : Looks l met todo' bad at_ s [] where
  here := h.wait s hs
  right := hw
  first := h.first
  sound := h.sound
  wait x hx := h.wait x (h2 x hx)
  closed x hx hn he := h.closed x hx fun e => by rcases h1 x e with e' | e'; exact he e'; exact hn e'
  was _ h := by cases h
  fine hb x hx hn := by
    by_cases e : x = s
    · rw [e]; exact hw
    · exact h.fine hb x hx fun e' => by rcases h1 x e' with e2 | e2; exact e e2; exact hn e2
  found hb := ⟨(h.found hb).1, fun x hx hn hx' => by
    by_cases e : x = s
    · rw [e] at hx'; exact absurd hw hx'
    · exact (h.found hb).2 x hx (fun e' => by rcases h1 x e' with e2 | e2; exact e e2; exact hn e2) hx'⟩
/-- A stand that is wrong is told. -/
theorem Search.wrong (h : Search l met todo bad at_) (hs : todo s) (h1 : ∀ x, todo x → x = s ∨ todo' x) (h2 : ∀ x, todo' x → todo x) (hw : wrongS l s ≠ 0) : Search l met todo' (if bad = 0 ∨ s.1 < at_ then wrongS l s else bad) (if bad = 0 ∨ s.1 < at_ then s.1 else at_) := by
  have hm := h.wait s hs
  have old : ∀ x, met x → ¬ todo' x → x ≠ s → ¬ todo x := fun x hx hn he e => by rcases h1 x e with e' | e'; exact he e'; exact hn e'
  by_cases c : bad = 0 ∨ s.1 < at_
  · rw [if_pos c, if_pos c]
    refine ⟨h.first, h.sound, fun x hx => h.wait x (h2 x hx), fun x hx hn hx' => ?_, fun e => absurd e hw, fun _ => ⟨⟨s, hm, rfl, rfl⟩, fun x hx hn hx' => ?_⟩⟩
    · have he : x ≠ s := fun e => by rw [e] at hx'; exact hw hx'
      exact h.closed x hx (old x hx hn he) hx'
    · by_cases e : x = s
      · rw [e]; exact Nat.le_refl _
      · by_cases b0 : bad = 0
        · exact absurd (h.fine b0 x hx (old x hx hn e)) hx'
        · have := (h.found b0).2 x hx (old x hx hn e) hx'
          rcases c with c | c
          · exact absurd c b0
          · omega
  · rw [if_neg c, if_neg c]
    have b0 : bad ≠ 0 := fun e => c (.inl e)
    refine ⟨h.first, h.sound, fun x hx => h.wait x (h2 x hx), fun x hx hn hx' => ?_, fun e => absurd e b0, fun _ => ⟨(h.found b0).1, fun x hx hn hx' => ?_⟩⟩
    · have he : x ≠ s := fun e => by rw [e] at hx'; exact hw hx'
      exact h.closed x hx (old x hx hn he) hx'
    · by_cases e : x = s
      · rw [e]
        have : ¬ s.1 < at_ := fun e => c (.inr e)
        omega
      · exact (h.found b0).2 x hx (old x hx hn e) hx'
/-- What follows was met before. -/
theorem Looks.skip (h : Looks l met todo bad at_ s done) (ht : met t) : Looks l met todo bad at_ s (done ++ [t]) :=
  { h with was := fun x hx => by rcases List.mem_append.1 hx with hx | hx; exact h.was x hx; rw [List.mem_singleton.1 hx]; exact ht }
/-- What follows is met now. -/
theorem Looks.push (h : Looks l met todo bad at_ s done) (ht : t ∈ nexts l s) (h1 : ∀ x, met' x ↔ met x ∨ x = t) (h2 : ∀ x, todo' x ↔ todo x ∨ x = t) : Looks l met' todo' bad at_ s (done ++ [t]) where
  here := (h1 s).2 (.inl h.here)
  right := h.right
  first := (h1 _).2 (.inl h.first)
  sound x hx := by
    rcases (h1 x).1 hx with e | e
    · exact h.sound x e
    · rw [e]; exact .next (h.sound s h.here) h.right ht
  wait x hx := by
    rcases (h2 x).1 hx with e | e
    · exact (h1 x).2 (.inl (h.wait x e))
    · exact (h1 x).2 (.inr e)
  closed x hx hn he hw u hu := by
    have hnt : ¬ todo x ∧ x ≠ t := ⟨fun e => hn ((h2 x).2 (.inl e)), fun e => hn ((h2 x).2 (.inr e))⟩
    rcases (h1 x).1 hx with e | e
    · exact (h1 u).2 (.inl (h.closed x e hnt.1 he hw u hu))
    · exact absurd e hnt.2
  was x hx := by
    rcases List.mem_append.1 hx with hx | hx
    · exact (h1 x).2 (.inl (h.was x hx))
    · exact (h1 x).2 (.inr (List.mem_singleton.1 hx))
  fine hb x hx hn := by
    rcases (h1 x).1 hx with e | e
    · exact h.fine hb x e fun e' => hn ((h2 x).2 (.inl e'))
    · exact absurd ((h2 x).2 (.inr e)) hn
  found hb := by
    obtain ⟨⟨y, y1, y2, y3⟩, g⟩ := h.found hb
    refine ⟨⟨y, (h1 y).2 (.inl y1), y2, y3⟩, fun x hx hn hw => ?_⟩
    rcases (h1 x).1 hx with e | e
    · exact g x e (fun e' => hn ((h2 x).2 (.inl e'))) hw
    · exact absurd ((h2 x).2 (.inr e)) hn
/-- All that follows was looked at. -/
theorem Looks.close (h : Looks l met todo bad at_ s (nexts l s)) : Search l met todo bad at_ where
  first := h.first
  sound := h.sound
  wait := h.wait
  closed x hx hn hw := by
    by_cases e : x = s
    · rw [e]; exact h.was
    · exact h.closed x hx hn e hw
  fine := h.fine
  found := h.found
end
/-- What is wrong with a program's stands, and where first. -/
def First (l : List Ins) (bad : Int) (at_ : Nat) : Prop :=
  (bad = 0 → ∀ s, Reach l s → wrongS l s = 0) ∧ (bad ≠ 0 → (∃ s, Reach l s ∧ s.1 = at_ ∧ wrongS l s = bad) ∧ ∀ s, Reach l s → wrongS l s ≠ 0 → at_ ≤ s.1)
/-- The search is at its end. -/
theorem Search.all {l : List Ins} {met todo : Stand → Prop} {bad : Int} {at_ : Nat} (h : Search l met todo bad at_) (hn : ∀ s, ¬ todo s) : (∀ s, met s ↔ Reach l s) ∧ First l bad at_ := by
  have hm : ∀ s, Reach l s → met s := fun s hs => by
    induction hs with
    | first => exact h.first
    | next _ hw ht ih => exact h.closed _ ih (hn _) hw _ ht
  refine ⟨fun s => ⟨h.sound s, hm s⟩, fun hb s hs => h.fine hb s (hm s hs) (hn _), fun hb => ?_⟩
  obtain ⟨⟨s, h1, h2, h3⟩, h4⟩ := h.found hb
  exact ⟨⟨s, h.sound s h1, h2, h3⟩, fun s hs hw => h4 s (hm s hs) (hn _) hw⟩
def wcode (l : List Ins) (p : Nat) : Int :=
  match l[p]? with
  | none => 0
  | some x => if x.op = 29 ∨ x.op = 30 then 14 else 16
theorem ite_ne {P : Prop} [Decidable P] {a : Int} (h : (if P then a else 0) ≠ 0) : (if P then a else 0) = a := by
  by_cases c : P
  · rw [if_pos c]
  · rw [if_neg c] at h; exact absurd rfl h
theorem wrong_code {l : List Ins} {s : Stand} (h : wrongS l s ≠ 0) : wrongS l s = wcode l s.1 := by
  unfold wrongS at h ⊢
  unfold wcode
  cases hx : l[s.1]? with
  | none => rfl
  | some x =>
    rw [hx] at h
    simp only at h ⊢
    by_cases e1 : x.op = 29
    · rw [if_pos e1] at h ⊢
      exact (ite_ne h).trans (if_pos (Or.inl e1)).symm
    · rw [if_neg e1] at h ⊢
      by_cases e2 : x.op = 30
      · rw [if_pos e2] at h ⊢
        exact (ite_ne h).trans (if_pos (Or.inr e2)).symm
      · rw [if_neg e2] at h ⊢
        by_cases e3 : x.op = 24 ∨ x.op = 25 ∨ x.op = 28
        · rw [if_pos e3] at h ⊢
          exact (ite_ne h).trans (if_neg (by rintro (e | e); exact e1 e; exact e2 e)).symm
        · rw [if_neg e3] at h; exact absurd rfl h
/-- At one place all that is wrong is wrong alike. -/
theorem wrong_same {l : List Ins} {s t : Stand} (hp : s.1 = t.1) (h1 : wrongS l s ≠ 0) (h2 : wrongS l t ≠ 0) : wrongS l s = wrongS l t := by
  rw [wrong_code h1, wrong_code h2, hp]
theorem First.det {l : List Ins} {b b' : Int} {a a' : Nat} (h : First l b a) (h' : First l b' a') (hz : b = 0 → a = 0) (hz' : b' = 0 → a' = 0) : b = b' ∧ a = a' := by
  by_cases e : b = 0
  · by_cases e' : b' = 0
    · exact ⟨by rw [e, e'], by rw [hz e, hz' e']⟩
    · obtain ⟨⟨s, h1, h2, h3⟩, -⟩ := h'.2 e'
      exact absurd (h3.symm.trans (h.1 e s h1)) e'
  · obtain ⟨⟨s, h1, h2, h3⟩, h4⟩ := h.2 e
    by_cases e' : b' = 0
    · exact absurd (h3.symm.trans (h'.1 e' s h1)) e
    · obtain ⟨⟨t, g1, g2, g3⟩, g4⟩ := h'.2 e'
      have i1 := h4 t g1 (by rw [g3]; exact e')
      have i2 := g4 s h1 (by rw [h3]; exact e)
      have : a = a' := by omega
      exact ⟨by rw [← h3, ← g3]; exact wrong_same (by omega) (by rw [h3]; exact e) (by rw [g3]; exact e'), this⟩
end Go.ValidP
