/- The plain law of rising locks (layer 12). -/
import Derived.Test.YtjjlemkmdldljaaLocksR
namespace Go.Proofs.Ytjjlemkmdldljaa.Locks
open Go.RowKit Go.Fb
set_option linter.unusedVariables false
def wfI (x : Int) : Prop := (Lit.int .i64 x).wf = true
structure Rise (B : Nat) (L : List (Int × List Int)) : Prop where
  inv : Inv B L
  idle : ∀ x ∈ L, x.1 = -1 → x.2 = []
  up : ∀ i j (hi : i < L.length) (hj : j < L.length), L[j].1 ∈ L[i].2 → j < i
  rg : ∀ x ∈ L, wfI x.1 ∧ ∀ y ∈ x.2, wfI y
section
variable {B : Nat} {L : List (Int × List Int)} {p : Int}
theorem Rise.mono {B' : Nat} (h : Rise B L) (hB : B ≤ B') : Rise B' L := ⟨h.inv.mono hB, h.idle, h.up, h.rg⟩
theorem Rise.start (n : Nat) (hn : n ≤ 8) : Rise 0 (List.replicate n (-1, [])) := by
  refine ⟨⟨by simpa using hn, ?_, ?_, ?_, ?_, ?_⟩, ?_, ?_, ?_⟩
  · intro x hx; rw [List.eq_of_mem_replicate hx]; decide
  · intro x hx y hy; rw [List.eq_of_mem_replicate hx] at hy; cases hy
  · intro x hx; rw [List.eq_of_mem_replicate hx]; simp
  · intro x hx; rw [List.eq_of_mem_replicate hx]; simp
  · intro i j hi hj hij y hy
    rw [List.getElem_replicate] at hy
    cases hy
  · intro x hx _; rw [List.eq_of_mem_replicate hx]
  · intro i j hi hj h
    rw [List.getElem_replicate (h := hi)] at h
    cases h
  · intro x hx; rw [List.eq_of_mem_replicate hx]; exact ⟨show (Lit.int .i64 (-1)).wf = true by decide, by simp⟩
/-- One lock turned: what is to be shown of its owner and queue. -/
theorem Rise.set {B' : Nat} (h : Rise B L) {k : Nat} (hk : k < L.length) {x' : Int × List Int} (hi : Inv B' (L.set k x')) (h1 : x'.1 = -1 → x'.2 = []) (h2 : wfI x'.1) (h3 : ∀ y ∈ x'.2, wfI y)
    (h4 : ∀ i (hi : i < L.length), i ≠ k → x'.1 = L[k].1 ∨ x'.1 ∉ L[i].2) (h5 : x'.1 ∉ x'.2) (h6 : ∀ j (hj : j < L.length), j ≠ k → L[j].1 ∈ x'.2 → L[j].1 ∈ L[k].2 ∨ j < k) : Rise B' (L.set k x') := by
  refine ⟨hi, ?_, ?_, ?_⟩
  · intro x hx
    rcases List.mem_or_eq_of_mem_set hx with e | rfl
    · exact h.idle x e
    · exact h1
  · intro i j hi hj hm
    have hi' : i < L.length := by simpa using hi
    have hj' : j < L.length := by simpa using hj
    by_cases gj : j = k
    · subst gj
      rw [List.getElem_set_self] at hm
      by_cases gi : i = j
      · subst gi
        rw [List.getElem_set_self] at hm
        exact absurd hm h5
      · rw [List.getElem_set_ne (Ne.symm gi)] at hm
        rcases h4 i hi' gi with e | e
        · rw [e] at hm; exact h.up i j hi' hj' hm
        · exact absurd hm e
    · rw [List.getElem_set_ne (Ne.symm gj)] at hm
      by_cases gi : i = k
      · subst gi
        rw [List.getElem_set_self] at hm
        rcases h6 j hj' gj hm with e | e
        · exact h.up i j hi' hj' e
        · exact e
      · rw [List.getElem_set_ne (Ne.symm gi)] at hm
        exact h.up i j hi' hj' hm
  · intro x hx
    rcases List.mem_or_eq_of_mem_set hx with e | rfl
    · exact h.rg x e
    · exact ⟨h2, h3⟩
theorem Rise.hand (h : Rise B L) {k : Nat} (hk : k < L.length) : Rise B (L.set k (handAt L[k])) := by
  have hm := List.getElem_mem hk
  have hi := h.inv.hand hk
  have hpos := h.inv.pos _ hm
  have hnod := h.inv.nod _ hm
  have hrg := h.rg _ hm
  have hap := fun i (hi : i < L.length) (g : i ≠ k) y (hy : y ∈ L[k].2) => h.inv.apart k i hk hi (Ne.symm g) y hy
  have hq : (handAt L[k] = (-1, []) ∧ L[k].2 = []) ∨ ∃ y ys, L[k].2 = y :: ys ∧ handAt L[k] = (y, ys) := by
    generalize L[k] = x
    obtain ⟨a, q⟩ := x
    cases q with
    | nil => exact .inl ⟨rfl, rfl⟩
    | cons y ys => exact .inr ⟨y, ys, rfl, rfl⟩
  rcases hq with ⟨e, eq⟩ | ⟨y, ys, eq, e⟩
  · rw [e] at hi ⊢
    refine h.set hk hi (fun _ => rfl) (show (Lit.int .i64 (-1)).wf = true by decide) (by simp) (fun i hi' g => .inr fun hm' => ?_) (by simp) (by simp)
    have := h.inv.pos _ (List.getElem_mem hi') _ hm'
    simp at this
  · rw [e] at hi ⊢
    rw [eq] at hpos hnod hrg hap
    refine h.set hk hi (fun h' => ?_) (hrg.2 y (by simp)) (fun z hz => hrg.2 z (by simp [hz])) (fun i hi' g => .inr (hap i hi' g y (by simp))) (List.nodup_cons.1 hnod).1 (fun j hj g hm' => .inl ?_)
    · have := hpos y (by simp); simp only at h'; omega
    · rw [eq]; exact List.mem_cons_of_mem _ hm'
theorem Rise.drop (h : Rise B L) (p : Int) : Rise B (rdropL L p) := by
  have hi := h.inv.drop p
  unfold rdropL at hi ⊢
  split at hi
  · rename_i hq
    rw [if_pos hq]
    obtain ⟨k, hk1, hk⟩ := wait_in hq
    rw [hk1, Int.toNat_natCast, getD_nat _ _ _ hk] at hi ⊢
    have hm := List.getElem_mem hk
    refine h.set hk hi (fun h' => ?_) (h.rg _ hm).1 (fun y hy => (h.rg _ hm).2 y (List.mem_filter.1 hy).1) (fun i hi' g => .inl rfl) (fun h' => ?_) (fun j hj g hm' => .inl (List.mem_filter.1 hm').1)
    · rw [h.idle _ hm h']; rfl
    · have := h.up k k hk hk (List.mem_filter.1 h').1; omega
  · rename_i hq
    rw [if_neg hq]; exact h
theorem Rise.hands (h : Rise B L) (ns : List Int) (hn : ∀ i, i < ns.length → (ns.getD i 0).toNat < L.length) : ∀ i, i ≤ ns.length → Rise B (rhandTo L ns i).1
  | 0, _ => h
  | i + 1, hi => by
    have ih := h.hands ns hn i (by omega)
    have hl : (ns.getD i 0).toNat < (rhandTo L ns i).1.length := by rw [rhandTo_len1]; exact hn i (by omega)
    have := ih.hand hl
    unfold rhandTo
    rw [getD_nat _ _ _ hl]
    exact this
theorem Rise.ends (h : Rise B L) (p : Int) : Rise B (endL L p).1 := by
  rw [end_eq h.inv p]
  exact (h.drop p).hands _ (rheld_toNat _ p) _ (Nat.le_refl _)
theorem Rise.give (h : Rise B L) (n p : Int) : Rise B (giveL L n p).1 := by
  rcases give_set (L := L) n p with e | ⟨k, hk, -, e⟩
  · rw [e]; exact h
  · rw [e]; exact h.hand hk
theorem Rise.take (h : Rise B L) (n p : Int) (hwf : wfI p) (hup : ∀ j (hj : j < L.length), L[j].1 = p → (j : Int) < n) : Rise (B + 1) (takeL L n p).1 := by
  have hi := h.inv.take n p
  unfold takeL at hi ⊢
  split at hi
  · rename_i g; rw [if_pos g]; exact h.mono (by omega)
  · rename_i he
    rw [if_neg he]
    split at hi
    · rename_i g; rw [if_pos g]; exact h.mono (by omega)
    · rename_i hq
      rw [if_neg hq]
      obtain ⟨k, rfl, hk, hp⟩ := wrong_zero (by simpa using he)
      rw [Int.toNat_natCast, getD_nat _ _ _ hk] at hi ⊢
      have hm := List.getElem_mem hk
      have hn := wait_none (by simpa using hq)
      unfold takeAt at hi ⊢
      by_cases h1 : L[k].1 = -1
      · rw [if_pos h1] at hi ⊢
        refine h.set hk hi (fun h' => ?_) hwf (h.rg _ hm).2 (fun i hi' g => .inr (hn _ (List.getElem_mem hi'))) (hn L[k] hm) (fun j hj g hm' => .inl hm')
        simp only at h'; omega
      · rw [if_neg h1] at hi ⊢
        have h2 : ¬ L[k].1 = p := fun e => by have := hup k hk e; omega
        rw [if_neg h2] at hi ⊢
        refine h.set hk hi (fun h' => absurd h' h1) (h.rg _ hm).1 (fun y hy => ?_) (fun i hi' g => .inl rfl) (fun h' => ?_) (fun j hj g hm' => ?_)
        · rcases List.mem_append.1 hy with e | e
          · exact (h.rg _ hm).2 y e
          · rw [List.mem_singleton.1 e]; exact hwf
        · rcases List.mem_append.1 h' with e | e
          · have := h.up k k hk hk e; omega
          · exact h2 (List.mem_singleton.1 e)
        · rcases List.mem_append.1 hm' with e | e
          · exact .inl e
          · have := hup j hj (List.mem_singleton.1 e); exact .inr (by omega)
/-- How an owner may turn in a step. -/
def Turned (L L' : List (Int × List Int)) (kind n p : Int) : Prop := L'.length = L.length ∧ ∀ k (hk : k < L.length) (hk' : k < L'.length), L'[k].1 = L[k].1 ∨ L'[k].1 = -1 ∨ (L[k].1 = -1 ∧ kind = 1 ∧ n = k ∧ L'[k].1 = p) ∨ ∃ ys, L[k].2 = L'[k].1 :: ys
theorem Turned.refl (L : List (Int × List Int)) (kind n p : Int) : Turned L L kind n p := ⟨rfl, fun k hk hk' => .inl rfl⟩
theorem hand_turn (x : Int × List Int) : (handAt x).1 = -1 ∨ ∃ ys, x.2 = (handAt x).1 :: ys := by
  obtain ⟨a, q⟩ := x
  cases q with
  | nil => exact .inl rfl
  | cons y ys => exact .inr ⟨ys, rfl⟩
theorem Turned.give (L : List (Int × List Int)) (kind n p : Int) : Turned L (giveL L n p).1 kind n p := by
  rcases give_set (L := L) n p with e | ⟨k, hk, -, e⟩
  · rw [e]; exact .refl _ _ _ _
  · rw [e]
    refine ⟨List.length_set, fun j hj hj' => ?_⟩
    by_cases g : j = k
    · subst g
      simp only [List.getElem_set_self]
      rcases hand_turn L[j] with e | e
      · exact .inr (.inl e)
      · exact .inr (.inr (.inr e))
    · simp only [List.getElem_set_ne (Ne.symm g)]
      exact .inl trivial
theorem Turned.take (L : List (Int × List Int)) (n p : Int) : Turned L (takeL L n p).1 1 n p := by
  unfold takeL
  split
  · exact .refl _ _ _ _
  · rename_i he
    split
    · exact .refl _ _ _ _
    · obtain ⟨k, rfl, hk, hp⟩ := wrong_zero (by simpa using he)
      rw [Int.toNat_natCast, getD_nat _ _ _ hk]
      refine ⟨List.length_set, fun j hj hj' => ?_⟩
      by_cases g : j = k
      · subst g
        simp only [List.getElem_set_self]
        unfold takeAt
        by_cases h1 : L[j].1 = -1
        · rw [if_pos h1]; exact .inr (.inr (.inl ⟨h1, by trivial, by trivial, rfl⟩))
        · rw [if_neg h1]
          split
          · exact .inl rfl
          · exact .inl rfl
      · simp only [List.getElem_set_ne (Ne.symm g)]
        exact .inl trivial
theorem rhand_get {M : List (Int × List Int)} {ns : List Int} (hnd : ns.Nodup) (hat : ∀ x ∈ ns, ∃ k : Nat, ∃ hk : k < M.length, x = k ∧ M[k].1 = p) (hp : 0 ≤ p) : ∀ i, i ≤ ns.length → ∀ k (hk : k < M.length), (rhandTo M ns i).1[k]? = some M[k] ∨ (M[k].1 = p ∧ (rhandTo M ns i).1[k]? = some (handAt M[k]))
  | 0, _, k, hk => .inl (List.getElem?_eq_getElem hk)
  | i + 1, hi, k, hk => by
    have hi' : i < ns.length := by omega
    obtain ⟨k2, hk2, hx, ho⟩ := hat _ (List.getElem_mem hi')
    have hgd : ns.getD i 0 = (k2 : Int) := by rw [getD_nat _ _ _ hi', hx]
    have hlk : k2 < (rhandTo M ns i).1.length := by rw [rhandTo_len1]; exact hk2
    have hnot : (k2 : Int) ∉ ns.take i := by
      intro hm
      obtain ⟨a, ha, hae⟩ := List.mem_iff_getElem.1 hm
      rw [List.length_take] at ha
      rw [List.getElem_take] at hae
      exact List.pairwise_iff_getElem.1 hnd a i (by omega) hi' (by omega) (by rw [hae, hx])
    have hkeep := (hand_eq hp hnd hat i (by omega)).2 k2 hnot
    unfold rhandTo
    rw [hgd, Int.toNat_natCast, getD_nat _ _ _ hlk]
    by_cases g : k2 = k
    · subst g
      right
      refine ⟨ho, ?_⟩
      rw [List.getElem?_eq_getElem hlk, List.getElem?_eq_getElem hk] at hkeep
      rw [List.getElem?_set_self hlk, Option.some.inj hkeep]
    · rw [List.getElem?_set_ne g]
      exact rhand_get hnd hat hp i (by omega) k hk
theorem Turned.ends (h : Rise B L) (kind n p : Int) : Turned L (endL L p).1 kind n p := by
  rw [end_eq h.inv p]
  have hlen : (rdropL L p).length = L.length := by unfold rdropL; split <;> simp
  have hlen2 : (rendL L p).1.length = L.length := by unfold rendL; rw [rhandTo_len1, hlen]
  have hown : ∀ k (hk : k < L.length) (hk' : k < (rdropL L p).length), (rdropL L p)[k].1 = L[k].1 ∧ ((rdropL L p)[k] = L[k] ∨ p ∈ L[k].2) := by
    intro k hk hk'
    have he := drop_eq h.inv p
    have : (rdropL L p)[k] = dropP p L[k] := by simp only [← he, List.getElem_map]
    rw [this]
    unfold dropP
    split
    · rename_i g; exact ⟨rfl, .inr g⟩
    · exact ⟨rfl, .inl rfl⟩
  refine ⟨hlen2, fun k hk hk' => ?_⟩
  have hkd : k < (rdropL L p).length := by rw [hlen]; exact hk
  obtain ⟨h1, h2⟩ := hown k hk hkd
  by_cases hp : p < 0
  · have e : (rendL L p).1 = rdropL L p := by
      unfold rendL
      rw [show rheldL (rdropL L p) p = [] from if_pos hp]
      rfl
    simp only [e]
    exact .inl h1
  · have hheld : rheldL (rdropL L p) p = heldL (rdropL L p) p := if_neg hp
    have := rhand_get (p := p) (M := rdropL L p) (ns := rheldL (rdropL L p) p) (by rw [hheld]; exact heldTo_nodup _ p _ (Nat.le_refl _)) (fun x hx => by
      rw [hheld] at hx
      obtain ⟨k, hk, e, _, ho⟩ := heldTo_own _ p _ (Nat.le_refl _) x hx
      exact ⟨k, hk, e, ho⟩) (by omega) _ (Nat.le_refl _) k hkd
    have hget : (rendL L p).1[k]? = some (rendL L p).1[k] := List.getElem?_eq_getElem hk'
    unfold rendL at hget
    rw [hget] at this
    rcases this with e | ⟨ho, e⟩
    · have e := Option.some.inj e
      left
      unfold rendL
      rw [e]; exact h1
    · have e := Option.some.inj e
      have hs : (rdropL L p)[k] = L[k] := h2.resolve_right fun hm => by
        have := h.up k k hk hk (by rw [h1] at ho; rw [ho]; exact hm); omega
      unfold rendL
      rw [e, hs]
      rcases hand_turn L[k] with e | e
      · exact .inr (.inl e)
      · exact .inr (.inr (.inr e))
theorem heldTo_sorted (M : List (Int × List Int)) (p : Int) : ∀ j, j ≤ M.length → (heldTo M p j).Pairwise (· < ·)
  | 0, _ => by simp [heldTo]
  | j + 1, hj => by
    unfold heldTo
    refine List.pairwise_append.2 ⟨heldTo_sorted M p j (by omega), by split <;> simp, ?_⟩
    intro a ha b hb
    obtain ⟨k, _, e1, h1, _⟩ := heldTo_own M p j (by omega) a ha
    split at hb
    · rw [List.mem_singleton] at hb; omega
    · cases hb
theorem heldTo_all (M : List (Int × List Int)) {p : Int} (hp : p ≠ -1) : ∀ j, j ≤ M.length → ∀ k (hk : k < M.length), k < j → M[k].1 = p → (k : Int) ∈ heldTo M p j
  | 0, _, k, hk, h, _ => by omega
  | j + 1, hj, k, hk, h, ho => by
    unfold heldTo
    by_cases g : k = j
    · subst g
      rw [getD_nat _ _ _ hk, if_pos ⟨ho, hp⟩]
      simp
    · exact List.mem_append_left _ (heldTo_all M hp j (by omega) k hk (by omega) ho)
/-- Who may take a lock holds only such as stand below it. -/
theorem held_below {n : Int} (hp : p ≠ -1) (h : (heldL L p).length = 0 ∨ (heldL L p).getD ((heldL L p).length - 1) 0 < n) : ∀ j (hj : j < L.length), L[j].1 = p → (j : Int) < n := by
  intro j hj ho
  have hm := heldTo_all L hp _ (Nat.le_refl _) j hj hj ho
  obtain ⟨a, ha, hae⟩ := List.mem_iff_getElem.1 hm
  have ha' : a < (heldL L p).length := ha
  rcases h with h | h
  · omega
  · rw [getD_nat _ _ _ (by omega)] at h
    have hle : (j : Int) ≤ (heldL L p)[(heldL L p).length - 1] := by
      by_cases g : a = (heldL L p).length - 1
      · have : (heldL L p)[a] = (j : Int) := hae
        simp only [← g, this]
        exact Int.le_refl _
      · have := List.pairwise_iff_getElem.1 (heldTo_sorted L p _ (Nat.le_refl _)) a ((heldL L p).length - 1) ha (show _ < (heldL L p).length by omega) (by omega)
        rw [hae] at this
        exact Int.le_of_lt this
    omega
end
end Go.Proofs.Ytjjlemkmdldljaa.Locks
