/- How long a hold may last (layer 8): no longer than there are stands. No program in sight. -/
import Derived.Test.YtjhiaicpgajeoaaValidU
namespace Go.ValidP
open Go.CodeP
set_option linter.unusedVariables false
theorem pig : ∀ (N : Nat) (L : List Nat), L.Nodup → (∀ x ∈ L, x < N) → L.length ≤ N
  | 0, L, _, h => by
    cases L with
    | nil => exact Nat.le_refl _
    | cons x L => exact absurd (h x (List.mem_cons_self ..)) (Nat.not_lt_zero _)
  | N + 1, L, hn, h => by
    by_cases hm : N ∈ L
    · have h1 := pig N (L.erase N) (hn.erase N) fun x hx => by
        have h2 := h x (List.mem_of_mem_erase hx)
        have h3 : x ≠ N := fun e => by rw [e] at hx; exact (hn.mem_erase_iff.1 hx).1 rfl
        omega
      have h2 := List.length_erase_of_mem hm
      omega
    · have := pig N L hn fun x hx => by
        have h2 := h x hx
        have h3 : x ≠ N := fun e => hm (e ▸ hx)
        omega
      omega
/-- How many stands there may be. -/
theorem small_count {l : List Ins} (hl : l.length ≤ 256) {L : List Stand} (hn : L.Nodup) (hs : ∀ s ∈ L, Small l s) : L.length ≤ 65792 := by
  have h1 : (L.map fun s => 256 * s.1 + s.2).Nodup := by
    refine List.pairwise_map.2 (hn.imp_of_mem fun {s t} hs1 ht hne e => hne ?_)
    have a := hs s hs1
    have b := hs t ht
    unfold Small at a b
    exact Prod.ext (by omega) (by omega)
  have h2 := pig 65792 _ h1 fun x hx => by
    obtain ⟨s, hs1, rfl⟩ := List.mem_map.1 hx
    have a := hs s hs1
    unfold Small at a
    omega
  rwa [List.length_map] at h2
theorem foldr_mem (ks : List Nat) : ks.foldr max 0 = 0 ∨ ks.foldr max 0 ∈ ks := by
  induction ks with
  | nil => exact .inl rfl
  | cons k ks ih =>
    rw [List.foldr_cons]
    rcases Nat.le_total (ks.foldr max 0) k with h | h
    · rw [Nat.max_eq_left h]; exact .inr (List.mem_cons_self ..)
    · rw [Nat.max_eq_right h]
      rcases ih with e | e
      · exact .inl e
      · exact .inr (List.mem_cons_of_mem _ e)
theorem mem_mapM {α β : Type} {f : α → Option β} : ∀ {l : List α} {ks : List β}, l.mapM f = some ks → ∀ k ∈ ks, ∃ x ∈ l, f x = some k
  | [], ks, h, k, hk => by
    simp at h
    subst h
    cases hk
  | x :: l, ks, h, k, hk => by
    rw [List.mapM_cons] at h
    cases hx : f x with
    | none => rw [hx] at h; cases h
    | some j =>
      rw [hx] at h
      cases hl : l.mapM f with
      | none => rw [hl] at h; cases h
      | some ks' =>
        rw [hl] at h
        injection h with h
        subst h
        rcases List.mem_cons.1 hk with rfl | hk
        · exact ⟨x, List.mem_cons_self .., hx⟩
        · obtain ⟨y, h1, h2⟩ := mem_mapM hl k hk
          exact ⟨y, List.mem_cons_of_mem _ h1, h2⟩
/-- What lasts longer than one is followed by what lasts one less. -/
theorem Long.pred {l : List Ins} {s : Stand} {k : Nat} (h : Long l s (k + 2)) : ∃ t ∈ nexts l s, Long l t (k + 1) := by
  obtain ⟨f, hf⟩ := h
  cases f with
  | zero =>
    unfold dep at hf
    by_cases h0 : s.2 = 0
    · rw [if_pos h0] at hf; injection hf with hf; omega
    · rw [if_neg h0] at hf; cases hf
  | succ f =>
    unfold dep at hf
    by_cases h0 : s.2 = 0
    · rw [if_pos h0] at hf; injection hf with hf; omega
    rw [if_neg h0] at hf
    cases hm : (nexts l s).mapM (dep l f) with
    | none => rw [hm] at hf; cases hf
    | some ks =>
      rw [hm] at hf
      simp only [Option.map_some, Option.some.injEq] at hf
      have hk : ks.foldr max 0 = k + 1 := by omega
      rcases foldr_mem ks with e | e
      · omega
      · obtain ⟨t, h1, h2⟩ := mem_mapM hm _ e
        rw [hk] at h2
        exact ⟨t, h1, f, h2⟩
theorem Long.row {l : List Ins} {locks : Int} (hl : locks ≤ 8) (hc : ∀ x ∈ l, check x l.length locks = 0) : ∀ (k : Nat) {s : Stand}, Small l s → Long l s k → ∃ L : List Stand, L.length = k ∧ L.Nodup ∧ ∀ x ∈ L, Small l x ∧ ∃ j, j ≤ k ∧ Long l x j
  | 0, s, _, _ => ⟨[], rfl, by simp, by simp⟩
  | 1, s, hs, hk => ⟨[s], rfl, by simp, fun x hx => by rw [List.mem_singleton.1 hx]; exact ⟨hs, 1, Nat.le_refl _, hk⟩⟩
  | k + 2, s, hs, hk => by
    obtain ⟨t, ht, hkt⟩ := hk.pred
    obtain ⟨L, h1, h2, h3⟩ := Long.row hl hc (k + 1) (nexts_small hl hc hs ht) hkt
    refine ⟨s :: L, by rw [List.length_cons, h1], ?_, fun x hx => ?_⟩
    · refine List.nodup_cons.2 ⟨fun hm => ?_, h2⟩
      obtain ⟨-, j, hj, hlj⟩ := h3 s hm
      have := hlj.det hk
      omega
    · rcases List.mem_cons.1 hx with rfl | hx
      · exact ⟨hs, _, Nat.le_refl _, hk⟩
      · obtain ⟨g1, j, g2, g3⟩ := h3 x hx
        exact ⟨g1, j, by omega, g3⟩
theorem Long.bound {l : List Ins} {locks : Int} (hl : locks ≤ 8) (hc : ∀ x ∈ l, check x l.length locks = 0) (h256 : l.length ≤ 256) {s : Stand} {k : Nat} (hs : Small l s) (hk : Long l s k) : k ≤ 65792 := by
  obtain ⟨L, h1, h2, h3⟩ := hk.row hl hc _ hs
  rw [← h1]
  exact small_count h256 h2 fun x hx => (h3 x hx).1
theorem Answer.bound {l : List Ins} {locks : Int} (hl : locks ≤ 8) (hc : ∀ x ∈ l, check x l.length locks = 0) (h256 : l.length ≤ 256) {s : Stand} {v : Int} (hs : Small l s) (h : Answer l s v) : -1 ≤ v ∧ v ≤ 65792 := by
  rcases h with ⟨h0, h⟩ | ⟨rfl, -⟩
  · have := h.bound hl hc h256 hs
    omega
  · omega
theorem Most.bound {l : List Ins} {ts : List Stand} {m : Int} (h : Most l ts m) {N : Nat} (hN : ∀ t ∈ ts, ∀ k, Long l t k → k ≤ N) : m ≤ N := by
  obtain ⟨ks, h1, h2, h3⟩ := h
  rcases foldr_mem ks with e | e
  · omega
  · obtain ⟨i, hi, he⟩ := List.mem_iff_getElem.1 e
    have := hN _ (List.getElem_mem (show i < ts.length by omega)) _ (h2 i (by omega) hi)
    rw [he] at this
    omega
end Go.ValidP
