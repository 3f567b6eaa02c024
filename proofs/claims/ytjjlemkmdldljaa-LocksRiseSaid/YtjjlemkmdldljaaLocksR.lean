/- The plain law of locks: what package locks does is what the reference does (layer 12). -/
import Derived.Test.YtjjlemkmdldljaaLocksO
namespace Go.Proofs.Ytjjlemkmdldljaa.Locks
open Go.RowKit Go.Fb
set_option linter.unusedVariables false
structure Inv (B : Nat) (L : List (Int × List Int)) : Prop where
  len : L.length ≤ 8
  own : ∀ x ∈ L, -1 ≤ x.1
  pos : ∀ x ∈ L, ∀ y ∈ x.2, 0 ≤ y
  nod : ∀ x ∈ L, x.2.Nodup
  sml : ∀ x ∈ L, x.2.length ≤ B
  apart : ∀ i j (hi : i < L.length) (hj : j < L.length), i ≠ j → ∀ y ∈ L[i].2, y ∉ L[j].2
section
variable {B B' : Nat} {L : List (Int × List Int)} {p : Int}
theorem Inv.set (h : Inv B L) {k : Nat} (hk : k < L.length) {x' : Int × List Int} (hB : B ≤ B') (h1 : -1 ≤ x'.1) (h2 : ∀ y ∈ x'.2, 0 ≤ y) (h3 : x'.2.Nodup) (h4 : x'.2.length ≤ B') (h5 : ∀ y ∈ x'.2, y ∈ L[k].2 ∨ ∀ x ∈ L, y ∉ x.2) : Inv B' (L.set k x') := by
  refine ⟨by rw [List.length_set]; exact h.len, ?_, ?_, ?_, ?_, ?_⟩
  · intro x hx
    rcases List.mem_or_eq_of_mem_set hx with e | rfl
    · exact h.own x e
    · exact h1
  · intro x hx
    rcases List.mem_or_eq_of_mem_set hx with e | rfl
    · exact h.pos x e
    · exact h2
  · intro x hx
    rcases List.mem_or_eq_of_mem_set hx with e | rfl
    · exact h.nod x e
    · exact h3
  · intro x hx
    rcases List.mem_or_eq_of_mem_set hx with e | rfl
    · exact Nat.le_trans (h.sml x e) hB
    · exact h4
  · intro i j hi hj hij y hy hy'
    have hi' : i < L.length := by simpa using hi
    have hj' : j < L.length := by simpa using hj
    by_cases gi : i = k
    · subst gi
      rw [List.getElem_set_self] at hy
      rw [List.getElem_set_ne hij] at hy'
      rcases h5 y hy with e | e
      · exact h.apart i j hi' hj' hij y e hy'
      · exact e _ (List.getElem_mem hj') hy'
    · rw [List.getElem_set_ne (Ne.symm gi)] at hy
      by_cases gj : j = k
      · subst gj
        rw [List.getElem_set_self] at hy'
        rcases h5 y hy' with e | e
        · exact h.apart i j hi' hj' hij y hy e
        · exact e _ (List.getElem_mem hi') hy
      · rw [List.getElem_set_ne (Ne.symm gj)] at hy'
        exact h.apart i j hi' hj' hij y hy hy'
theorem Inv.mono (h : Inv B L) (hB : B ≤ B') : Inv B' L := ⟨h.len, h.own, h.pos, h.nod, fun x hx => Nat.le_trans (h.sml x hx) hB, h.apart⟩
theorem wait_none (h : (waitAt L p).2 = false) : ∀ x ∈ L, p ∉ x.2 := by
  intro x hx hp
  unfold waitAt at h
  split at h
  · cases h
  · rename_i g
    have e : L.findIdx (fun x => decide (p ∈ x.2)) = L.length := by
      have := List.findIdx_le_length (p := fun (x : Int × List Int) => decide (p ∈ x.2)) (xs := L)
      omega
    have := List.findIdx_eq_length.1 e x hx
    simp [hp] at this
theorem Inv.take (h : Inv B L) (n p : Int) : Inv (B + 1) (takeL L n p).1 := by
  unfold takeL
  split
  · exact h.mono (by omega)
  · rename_i he
    split
    · exact h.mono (by omega)
    · rename_i hq
      obtain ⟨k, rfl, hk, hp⟩ := wrong_zero (by simpa using he)
      rw [Int.toNat_natCast, getD_nat _ _ _ hk]
      have hm := List.getElem_mem hk
      have hn := wait_none (by simpa using hq)
      unfold takeAt
      by_cases h1 : L[k].1 = -1
      · rw [if_pos h1]
        exact h.set hk (by omega) (show -1 ≤ p by omega) (h.pos L[k] hm) (h.nod L[k] hm) (Nat.le_trans (h.sml L[k] hm) (by omega)) (fun y hy => .inl hy)
      · rw [if_neg h1]
        by_cases h2 : L[k].1 = p
        · rw [if_pos h2]
          exact h.set hk (by omega) (h.own _ hm) (h.pos _ hm) (h.nod _ hm) (Nat.le_trans (h.sml _ hm) (by omega)) (fun y hy => .inl hy)
        · rw [if_neg h2]
          refine h.set hk (by omega) (h.own L[k] hm) ?_ ?_ ?_ ?_
          · intro y hy
            rcases List.mem_append.1 hy with e | e
            · exact h.pos _ hm y e
            · rw [List.mem_singleton.1 e]; exact hp
          · refine List.nodup_append.2 ⟨h.nod _ hm, by simp, ?_⟩
            intro a ha b hb e
            rw [List.mem_singleton.1 hb] at e
            exact hn _ hm (e ▸ ha)
          · rw [List.length_append]; have := h.sml _ hm; simp; omega
          · intro y hy
            rcases List.mem_append.1 hy with e | e
            · exact .inl e
            · rw [List.mem_singleton.1 e]; exact .inr hn
theorem Inv.hand (h : Inv B L) {k : Nat} (hk : k < L.length) : Inv B (L.set k (handAt L[k])) := by
  have hm := List.getElem_mem hk
  have h0 := h.own _ hm
  have h1 := h.pos _ hm
  have h2 := h.nod _ hm
  have h3 := h.sml _ hm
  have h5 : ∀ y ∈ (handAt L[k]).2, y ∈ L[k].2 := by
    generalize L[k] = x
    obtain ⟨a, q⟩ := x
    intro y hy
    unfold handAt at hy
    cases q with
    | nil => cases hy
    | cons z zs => exact List.mem_cons_of_mem _ hy
  refine h.set hk (Nat.le_refl _) ?_ (fun y hy => h1 y (h5 y hy)) ?_ (Nat.le_trans (handAt_le _) h3) (fun y hy => .inl (h5 y hy))
  · generalize L[k] = x at *
    obtain ⟨a, q⟩ := x
    unfold handAt
    cases q with
    | nil => show (-1 : Int) ≤ -1; decide
    | cons z zs => have := h1 z (List.mem_cons_self); show -1 ≤ z; omega
  · generalize L[k] = x at *
    obtain ⟨a, q⟩ := x
    unfold handAt
    cases q with
    | nil => simp
    | cons z zs => exact (List.nodup_cons.1 h2).2
theorem give_set (n p : Int) : (giveL L n p).1 = L ∨ ∃ k, ∃ hk : k < L.length, L[k].1 = p ∧ (giveL L n p).1 = L.set k (handAt L[k]) := by
  unfold giveL
  split
  · exact .inl rfl
  · rename_i he
    obtain ⟨k, rfl, hk, hp⟩ := wrong_zero (by simpa using he)
    rw [Int.toNat_natCast, getD_nat _ _ _ hk]
    by_cases h1 : L[k].1 = p
    · exact .inr ⟨k, hk, h1, by rw [give_hand h1]⟩
    · left
      rw [show giveAt L[k] p = L[k] by unfold giveAt; rw [if_pos h1], List.set_getElem_self]
theorem Inv.give (h : Inv B L) (n p : Int) : Inv B (giveL L n p).1 := by
  rcases give_set (L := L) n p with e | ⟨k, hk, -, e⟩
  · rw [e]; exact h
  · rw [e]; exact h.hand hk
theorem Inv.drop (h : Inv B L) (p : Int) : Inv B (rdropL L p) := by
  unfold rdropL
  split
  · rename_i hq
    obtain ⟨k, hk1, hk⟩ := wait_in hq
    rw [hk1, Int.toNat_natCast, getD_nat _ _ _ hk]
    have hm := List.getElem_mem hk
    refine h.set hk (Nat.le_refl _) (h.own L[k] hm) (fun y hy => h.pos L[k] hm y (List.mem_filter.1 hy).1) ((h.nod L[k] hm).filter _) (Nat.le_trans (List.length_filter_le _ _) (h.sml L[k] hm)) (fun y hy => .inl (List.mem_filter.1 hy).1)
  · exact h
theorem Inv.hands (h : Inv B L) (ns : List Int) (hn : ∀ i, i < ns.length → (ns.getD i 0).toNat < L.length) : ∀ i, i ≤ ns.length → Inv B (rhandTo L ns i).1
  | 0, _ => h
  | i + 1, hi => by
    have ih := h.hands ns hn i (by omega)
    have hl : (ns.getD i 0).toNat < (rhandTo L ns i).1.length := by rw [rhandTo_len1]; exact hn i (by omega)
    have := ih.hand hl
    unfold rhandTo
    rw [getD_nat _ _ _ hl]
    exact this
theorem rheld_toNat (M : List (Int × List Int)) (p : Int) (i : Nat) (hi : i < (rheldL M p).length) : ((rheldL M p).getD i 0).toNat < M.length := by
  obtain ⟨k, e, hk⟩ := rheld_at M p i hi
  rw [e]; simpa using hk
theorem Inv.rend (h : Inv B L) (p : Int) : Inv B (rendL L p).1 := (h.drop p).hands _ (rheld_toNat _ p) _ (Nat.le_refl _)
theorem drop_none {x : Int × List Int} (h : p ∉ x.2) : dropP p x = x := by unfold dropP; rw [if_neg h]
theorem drop_one {x : Int × List Int} (h : p ∈ x.2) (hn : x.2.Nodup) : dropP p x = (x.1, x.2.filter (fun y => y != p)) := by
  unfold dropP
  rw [if_pos h]
  have e1 : x.2.eraseIdx (x.2.findIdx (· == p)) = x.2.erase p := (List.erase_eq_eraseIdx_of_idxOf (l := x.2) (a := p) (i := x.2.findIdx (· == p)) rfl).symm
  rw [e1, hn.erase_eq_filter]
theorem drop_eq (h : Inv B L) (p : Int) : L.map (dropP p) = rdropL L p := by
  unfold rdropL
  split
  · rename_i hq
    have hk0 := wait_in hq
    obtain ⟨k, hk1, hk⟩ := hk0
    have hmem : p ∈ L[k].2 := by
      unfold waitAt at hk1 hq
      split at hq
      · rename_i g
        rw [if_pos g] at hk1
        have e : List.findIdx (fun x => decide (p ∈ x.2)) L = k := Int.ofNat.inj (by simpa using hk1)
        have := List.findIdx_getElem (xs := L) (p := fun x => decide (p ∈ x.2)) (w := g)
        simp only [e] at this
        simpa using this
      · cases hq
    rw [hk1, Int.toNat_natCast, getD_nat _ _ _ hk]
    refine List.ext_getElem (by simp) fun i hi hj => ?_
    rw [List.getElem_map]
    have hiL : i < L.length := by simpa using hi
    by_cases g : i = k
    · subst g
      rw [List.getElem_set_self, drop_one hmem (h.nod _ (List.getElem_mem hk))]
    · rw [List.getElem_set_ne (Ne.symm g), drop_none (h.apart k i hk hiL (Ne.symm g) p hmem)]
  · rename_i hq
    have hn := wait_none (by simpa using hq)
    conv => rhs; rw [← List.map_id L]
    exact List.map_congr_left fun x hx => drop_none (hn x hx)
theorem heldTo_neg {M : List (Int × List Int)} (h : ∀ x ∈ M, -1 ≤ x.1) (hp : p < 0) : ∀ j, j ≤ M.length → heldTo M p j = []
  | 0, _ => rfl
  | j + 1, hj => by
    unfold heldTo
    rw [heldTo_neg h hp j (by omega), if_neg, List.append_nil]
    rw [getD_nat _ _ _ (by omega)]
    have := h _ (List.getElem_mem (show j < M.length by omega))
    omega
theorem held_eq {M : List (Int × List Int)} (h : ∀ x ∈ M, -1 ≤ x.1) : heldL M p = rheldL M p := by
  unfold rheldL
  by_cases hp : p < 0
  · rw [if_pos hp]; exact heldTo_neg h hp _ (Nat.le_refl _)
  · rw [if_neg hp]
theorem heldTo_own (M : List (Int × List Int)) (p : Int) : ∀ j, j ≤ M.length → ∀ x, x ∈ heldTo M p j → ∃ k : Nat, ∃ hk : k < M.length, x = k ∧ k < j ∧ M[k].1 = p
  | 0, _, x, h => by cases h
  | j + 1, hj, x, h => by
    unfold heldTo at h
    rcases List.mem_append.1 h with h | h
    · obtain ⟨k, hk, e, h1, h2⟩ := heldTo_own M p j (by omega) x h; exact ⟨k, hk, e, by omega, h2⟩
    · split at h
      · rename_i g
        refine ⟨j, by omega, by simpa using h, by omega, ?_⟩
        have := g.1
        rwa [getD_nat _ _ _ (by omega)] at this
      · cases h
theorem heldTo_nodup (M : List (Int × List Int)) (p : Int) : ∀ j, j ≤ M.length → (heldTo M p j).Nodup
  | 0, _ => by simp [heldTo]
  | j + 1, hj => by
    unfold heldTo
    refine List.nodup_append.2 ⟨heldTo_nodup M p j (by omega), by split <;> simp, ?_⟩
    intro a ha b hb e
    obtain ⟨k, _, e1, h1, _⟩ := heldTo_own M p j (by omega) a ha
    split at hb
    · rw [List.mem_singleton] at hb; omega
    · cases hb
theorem hand_eq {M : List (Int × List Int)} {ns : List Int} (hp : 0 ≤ p) (hnd : ns.Nodup) (hat : ∀ x ∈ ns, ∃ k : Nat, ∃ hk : k < M.length, x = k ∧ M[k].1 = p) : ∀ i, i ≤ ns.length → handTo M p ns i = rhandTo M ns i ∧ ∀ k : Nat, (k : Int) ∉ ns.take i → (rhandTo M ns i).1[k]? = M[k]?
  | 0, _ => ⟨rfl, fun _ _ => rfl⟩
  | i + 1, hi => by
    obtain ⟨e, hkeep⟩ := hand_eq hp hnd hat i (by omega)
    have hi' : i < ns.length := by omega
    obtain ⟨k, hk, hx, ho⟩ := hat _ (List.getElem_mem hi')
    have hnot : (k : Int) ∉ ns.take i := by
      intro hm
      obtain ⟨a, ha, hae⟩ := List.mem_iff_getElem.1 hm
      rw [List.length_take] at ha
      rw [List.getElem_take] at hae
      exact List.pairwise_iff_getElem.1 hnd a i (by omega) hi' (by omega) (by rw [hae, hx])
    have hlk : k < (rhandTo M ns i).1.length := by rw [rhandTo_len1]; exact hk
    have hget : (rhandTo M ns i).1[k] = M[k] := by
      have := hkeep k hnot
      rw [List.getElem?_eq_getElem hlk, List.getElem?_eq_getElem hk] at this
      exact Option.some.inj this
    have hgd : ns.getD i 0 = (k : Int) := by rw [getD_nat _ _ _ hi', hx]
    have hw : wrongN (rhandTo M ns i).1.length k p = 0 := by unfold wrongN; rw [if_neg (by omega), if_neg (by omega)]
    have hg : giveL (rhandTo M ns i).1 k p = ((rhandTo M ns i).1.set k (handAt (rhandTo M ns i).1[k]), (handAt (rhandTo M ns i).1[k]).1, 0) := by
      unfold giveL
      rw [if_neg (by rw [hw]; simp), Int.toNat_natCast, getD_nat _ _ _ hlk, give_hand (by rw [hget]; exact ho)]
    refine ⟨?_, fun k' hk' => ?_⟩
    · unfold handTo rhandTo
      rw [e, hgd, hg, Int.toNat_natCast, getD_nat _ _ _ hlk]
    · unfold rhandTo
      rw [hgd, Int.toNat_natCast]
      rw [List.take_succ_eq_append_getElem hi', List.mem_append, hx] at hk'
      have h1 : k ≠ k' := fun e => hk' (.inr (by simp [e]))
      rw [List.getElem?_set_ne h1]
      exact hkeep k' fun h => hk' (.inl h)
theorem end_eq (h : Inv B L) (p : Int) : endL L p = rendL L p := by
  have hd := h.drop p
  unfold endL rendL
  rw [drop_eq h p, held_eq hd.own]
  by_cases hp : p < 0
  · rw [show rheldL (rdropL L p) p = [] from if_pos hp]
    rfl
  · have hheld : rheldL (rdropL L p) p = heldL (rdropL L p) p := if_neg hp
    rw [hheld]
    exact (hand_eq (by omega) (heldTo_nodup _ p _ (Nat.le_refl _)) (fun x hx => by
      obtain ⟨k, hk, e, _, ho⟩ := heldTo_own _ p _ (Nat.le_refl _) x hx
      exact ⟨k, hk, e, ho⟩) _ (Nat.le_refl _)).1
end
end Go.Proofs.Ytjjlemkmdldljaa.Locks
