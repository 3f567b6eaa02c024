/- Scripts and their bytes, plainly: what chapter 16 computes, and its laws. No program in sight. -/
import Derived.Test.YtgmibjhbneggeaaBytesP
namespace Go.ScriptP
open Go.RowKit Go.BytesP

structure Step where
  k : Int
  n : Int
  v : Int

def wrong (s : Step) : Int := if s.k < 1 ∨ 3 < s.k then 1 else if s.n < 0 ∨ 4294967295 < s.n then 2 else if s.v ≠ 0 ∧ s.k ≠ 2 then 11 else 0
def mayFrom (i : Nat) : List Step → Int × Int
  | [] => (0, 0)
  | s :: l => if wrong s = 0 then mayFrom (i + 1) l else (wrong s, i)
def may (l : List Step) : Int × Int := if 1024 < l.length then (3, 1024) else mayFrom 0 l
def mark : List UInt8 := [70, 66, 83, 67, 1]
def encS (s : Step) : List UInt8 := le s.k 1 ++ le s.n 4 ++ (if s.k = 2 then le s.v 8 else [])
def enc (l : List Step) : List UInt8 := mark ++ le l.length 2 ++ l.flatMap encS

/-- What a reader finds: a thing and the place behind it, or what is wrong, and where. -/
abbrev Got (α : Type) := Except (Int × Int) (α × Nat)
def num (b : List UInt8) (p k : Nat) : Option Nat := if b.length < p + k then none else some (val ((b.drop p).take k))
def pMark (b : List UInt8) : Nat → Nat → Except (Int × Int) Unit
  | _, 0 => .ok ()
  | i, f + 1 => match b[i]? with
    | none => .error (5, b.length)
    | some c => if some c = mark[i]? then pMark b (i + 1) f else .error (4, i)
def pStep (b : List UInt8) (p : Nat) : Got Step :=
  match b[p]? with
  | none => .error (5, b.length)
  | some k =>
    if k.toNat < 1 ∨ 3 < k.toNat then .error (1, p)
    else match num b (p + 1) 4 with
      | none => .error (5, b.length)
      | some n => if k.toNat = 2 then match num b (p + 5) 8 with
          | none => .error (5, b.length)
          | some v => .ok (⟨k.toNat, n, wrap64 v⟩, p + 13)
        else .ok (⟨k.toNat, n, 0⟩, p + 5)
def pSteps (b : List UInt8) : Nat → Nat → Got (List Step)
  | p, 0 => .ok ([], p)
  | p, f + 1 => match pStep b p with
    | .error e => .error e
    | .ok (s, q) => match pSteps b q f with
      | .error e => .error e
      | .ok (l, r) => .ok (s :: l, r)
def dec (b : List UInt8) : Except (Int × Int) (List Step) :=
  if 1048576 < b.length then .error (22, 1048576)
  else match pMark b 0 5 with
    | .error e => .error e
    | .ok _ => match num b 5 2 with
      | none => .error (5, b.length)
      | some n => if 1024 < n then .error (3, 5)
        else match pSteps b 7 n with
          | .error e => .error e
          | .ok (l, r) => if r < b.length then .error (6, r) else .ok l

/-! ### Laws -/
theorem num_at {b pre x post : List UInt8} {k : Nat} (hb : b = pre ++ (x ++ post)) (hx : x.length = k) : num b pre.length k = some (val x) := by
  subst hb; subst hx
  unfold num
  rw [if_neg (by simp), List.drop_left, List.take_left]
theorem num_none {b : List UInt8} {p k : Nat} (h : b.length < p + k) : num b p k = none := by unfold num; rw [if_pos h]
theorem num_some {b : List UInt8} {p k n : Nat} (h : num b p k = some n) : p + k ≤ b.length ∧ n = val ((b.drop p).take k) ∧ ((b.drop p).take k).length = k := by
  unfold num at h
  split at h
  · cases h
  · injection h with h
    refine ⟨by omega, h.symm, by rw [List.length_take, List.length_drop]; omega⟩
theorem le_num {b : List UInt8} {p k n : Nat} (h : num b p k = some n) : le n k = (b.drop p).take k := by
  obtain ⟨_, rfl, hl⟩ := num_some h
  have := le_val ((b.drop p).take k)
  rw [hl] at this; exact this

/-- A step of a script that may be: what its numbers are. -/
def Fine (s : Step) : Prop := wrong s = 0 ∧ -9223372036854775808 ≤ s.v ∧ s.v ≤ 9223372036854775807
theorem Fine.bd {s : Step} (h : Fine s) : 1 ≤ s.k ∧ s.k ≤ 3 ∧ 0 ≤ s.n ∧ s.n ≤ 4294967295 ∧ (s.k ≠ 2 → s.v = 0) := by
  obtain ⟨h, _⟩ := h
  unfold wrong at h
  split at h
  · cases h
  · split at h
    · cases h
    · split at h
      · cases h
      · refine ⟨by omega, by omega, by omega, by omega, fun hk => ?_⟩
        rename_i h3
        by_cases hv : s.v = 0
        · exact hv
        · exact absurd ⟨hv, hk⟩ h3
theorem length_encS (s : Step) : (encS s).length = if s.k = 2 then 13 else 5 := by
  unfold encS
  split <;> simp [length_le]
theorem toNat_kind {k : Int} (h0 : 1 ≤ k) (h1 : k ≤ 3) : ((UInt8.ofNat k.toNat).toNat : Int) = k := by rw [UInt8.toNat_ofNat']; omega

theorem pStep_at {b pre post : List UInt8} {s : Step} (hb : b = pre ++ (encS s ++ post)) (h : Fine s) : pStep b pre.length = .ok (s, pre.length + (encS s).length) := by
  obtain ⟨k1, k2, n1, n2, hv⟩ := h.bd
  obtain ⟨_, v1, v2⟩ := h
  have hk := toNat_kind k1 k2
  have hn := val_le s.n 4 n1 (by omega)
  rw [length_encS]
  unfold encS at hb
  rw [le_one (by omega) (by omega)] at hb
  have g0 : b[pre.length]? = some (UInt8.ofNat s.k.toNat) := by rw [hb]; simp
  have g1 : num b (pre.length + 1) 4 = some (val (le s.n 4)) := by
    have := num_at (b := b) (pre := pre ++ [UInt8.ofNat s.k.toNat]) (x := le s.n 4) (post := (if s.k = 2 then le s.v 8 else []) ++ post) (by rw [hb]; simp) (length_le _ _)
    simpa using this
  unfold pStep
  rw [g0]
  simp only
  rw [if_neg (by omega), g1]
  simp only
  by_cases h2 : s.k = 2
  · have g2 : num b (pre.length + 5) 8 = some (val (le s.v 8)) := by
      have := num_at (b := b) (pre := pre ++ ([UInt8.ofNat s.k.toNat] ++ le s.n 4)) (x := le s.v 8) (post := post) (by rw [hb, if_pos h2]; simp) (length_le _ _)
      simpa [length_le] using this
    rw [if_pos (by omega), g2, if_pos h2]
    simp only
    rw [wrap_val_le _ v1 v2, hn, hk]
  · rw [if_neg (by omega), if_neg h2, hn, hk, ← hv h2]
theorem pSteps_at : ∀ (l : List Step) (b pre post : List UInt8), b = pre ++ (l.flatMap encS ++ post) → (∀ s ∈ l, Fine s) → pSteps b pre.length l.length = .ok (l, pre.length + (l.flatMap encS).length)
  | [], b, pre, post, _, _ => by simp [pSteps]
  | s :: l, b, pre, post, hb, hf => by
    have h1 := pStep_at (b := b) (pre := pre) (post := l.flatMap encS ++ post) (s := s) (by rw [hb]; simp) (hf s (by simp))
    have h2 := pSteps_at l b (pre ++ encS s) post (by rw [hb]; simp) (fun x hx => hf x (by simp [hx]))
    simp only [List.length_cons, pSteps, h1]
    rw [List.length_append] at h2
    rw [h2]
    simp only [List.flatMap_cons, List.length_append]
    rw [Nat.add_assoc]
theorem pStep_cut {b pre t : List UInt8} {s : Step} (hb : b = pre ++ t) (ht : t = (encS s).take t.length) (hl : t.length < (encS s).length) (h : Fine s) : pStep b pre.length = .error (5, b.length) := by
  obtain ⟨k1, k2, n1, n2, hv⟩ := h.bd
  have hk := toNat_kind k1 k2
  have hbl : b.length = pre.length + t.length := by rw [hb, List.length_append]
  rw [length_encS] at hl
  unfold pStep
  cases t with
  | nil =>
    have : b[pre.length]? = none := by rw [hb]; simp
    rw [this]
  | cons c t =>
    have hc : c = UInt8.ofNat s.k.toNat := by
      unfold encS at ht
      rw [le_one (by omega) (by omega)] at ht
      simp at ht
      exact ht.1
    subst hc
    have g0 : b[pre.length]? = some (UInt8.ofNat s.k.toNat) := by rw [hb]; simp
    rw [g0]
    simp only
    rw [if_neg (by omega)]
    by_cases h5 : b.length < pre.length + 1 + 4
    · rw [num_none h5]
    · have : ∃ n, num b (pre.length + 1) 4 = some n := by unfold num; rw [if_neg h5]; exact ⟨_, rfl⟩
      obtain ⟨n, hn⟩ := this
      rw [hn]
      simp only
      have h2 : s.k = 2 := by
        by_cases h2 : s.k = 2
        · exact h2
        · rw [if_neg h2] at hl; omega
      rw [if_pos h2] at hl
      rw [if_pos (by omega), num_none (by omega)]
theorem pSteps_cut : ∀ (l : List Step) (b pre t : List UInt8), b = pre ++ t → t = (l.flatMap encS).take t.length → t.length < (l.flatMap encS).length → (∀ s ∈ l, Fine s) → pSteps b pre.length l.length = .error (5, b.length)
  | [], _, _, _, _, _, hl, _ => by simp at hl
  | s :: l, b, pre, t, hb, ht, hl, hf => by
    simp only [List.length_cons, pSteps]
    by_cases h : t.length < (encS s).length
    · rw [pStep_cut (s := s) hb (by rw [List.flatMap_cons, List.take_append_of_le_length (by omega)] at ht; exact ht) h (hf s (by simp))]
    · obtain ⟨t', rfl⟩ : ∃ t', t = encS s ++ t' := ⟨(l.flatMap encS).take (t.length - (encS s).length), by
        rw [List.flatMap_cons, List.take_append, List.take_of_length_le (l := encS s) (by omega)] at ht; exact ht⟩
      have h1 := pStep_at (b := b) (pre := pre) (post := t') (s := s) (by rw [hb]) (hf s (by simp))
      rw [h1]
      simp only
      have h2 := pSteps_cut l b (pre ++ encS s) t' (by rw [hb]; simp) (by
          rw [List.flatMap_cons, List.length_append, List.take_append, List.take_of_length_le (l := encS s) (by omega)] at ht
          have := List.append_cancel_left ht
          rw [show (encS s).length + t'.length - (encS s).length = t'.length by omega] at this; exact this)
        (by rw [List.flatMap_cons, List.length_append, List.length_append] at hl; omega) (fun x hx => hf x (by simp [hx]))
      rw [List.length_append] at h2
      rw [h2]
theorem mayFrom_ok : ∀ (l : List Step) (i : Nat), mayFrom i l = (0, 0) → ∀ s ∈ l, wrong s = 0
  | [], _, _ => by simp
  | s :: l, i, h => by
    simp only [mayFrom] at h
    split at h
    · rename_i h0
      intro x hx
      rcases List.mem_cons.1 hx with rfl | hx
      · exact h0
      · exact mayFrom_ok l (i + 1) h x hx
    · rename_i h0; simp only [Prod.mk.injEq] at h; exact absurd h.1 h0
theorem mayFrom_of : ∀ (l : List Step) (i : Nat), (∀ s ∈ l, wrong s = 0) → mayFrom i l = (0, 0)
  | [], _, _ => rfl
  | s :: l, i, h => by
    simp only [mayFrom]
    rw [if_pos (h s (by simp))]
    exact mayFrom_of l (i + 1) fun x hx => h x (by simp [hx])
theorem may_ok {l : List Step} (h : may l = (0, 0)) : l.length ≤ 1024 ∧ ∀ s ∈ l, wrong s = 0 := by
  unfold may at h
  split at h
  · simp at h
  · exact ⟨by omega, mayFrom_ok l 0 h⟩
theorem may_of {l : List Step} (h1 : l.length ≤ 1024) (h2 : ∀ s ∈ l, wrong s = 0) : may l = (0, 0) := by
  unfold may; rw [if_neg (by omega)]; exact mayFrom_of l 0 h2
def InV (l : List Step) : Prop := ∀ s ∈ l, -9223372036854775808 ≤ s.v ∧ s.v ≤ 9223372036854775807
theorem fine_of {l : List Step} (h : may l = (0, 0)) (hv : InV l) : ∀ s ∈ l, Fine s := fun s hs => ⟨(may_ok h).2 s hs, hv s hs⟩
theorem length_flat (l : List Step) : (l.flatMap encS).length ≤ 13 * l.length := by
  induction l with
  | nil => simp
  | cons s l ih => rw [List.flatMap_cons, List.length_append, length_encS, List.length_cons]; split <;> omega
theorem length_enc (l : List Step) : (enc l).length = 7 + (l.flatMap encS).length := by
  unfold enc; rw [List.length_append, List.length_append, length_le]; rfl
theorem pMark_of {b t : List UInt8} (h : b = mark ++ t) : pMark b 0 5 = .ok () := by subst h; simp [pMark, mark]
theorem pMark_cut {b : List UInt8} (k : Nat) (hk : k < 5) (h : b = mark.take k) : pMark b 0 5 = .error (5, k) := by
  subst h
  match k, hk with
  | 0, _ => rfl
  | 1, _ => rfl
  | 2, _ => rfl
  | 3, _ => rfl
  | 4, _ => rfl
/-- There and back. -/
theorem dec_enc_more {l : List Step} (h : may l = (0, 0)) (hv : InV l) (post : List UInt8) (hp : post.length ≤ 1) : dec (enc l ++ post) = if post = [] then .ok l else .error (6, (enc l).length) := by
  have hl := (may_ok h).1
  have hfl := length_flat l
  have hel := length_enc l
  have hn := val_le (l.length : Int) 2 (by omega) (by omega)
  unfold dec
  rw [if_neg (by rw [List.length_append]; omega), pMark_of (t := le l.length 2 ++ l.flatMap encS ++ post) (by simp [enc])]
  simp only
  have g1 : num (enc l ++ post) 5 2 = some (val (le l.length 2)) := num_at (pre := mark) (x := le l.length 2) (post := l.flatMap encS ++ post) (by simp [enc]) (length_le _ _)
  have g2 : pSteps (enc l ++ post) 7 l.length = .ok (l, (enc l).length) := by
    have := pSteps_at l (enc l ++ post) (mark ++ le l.length 2) post (by simp [enc]) (fine_of h hv)
    have e : (mark ++ le (l.length : Int) 2).length = 7 := by simp [length_le, mark]
    rw [e] at this
    rw [this, hel]
  rw [g1]
  simp only
  rw [if_neg (by omega), show val (le (l.length : Int) 2) = l.length by omega, g2]
  simp only
  rw [List.length_append]
  cases post with
  | nil => rw [if_neg (by simp), if_pos rfl]
  | cons c post => rw [if_pos (by simp), if_neg (by simp)]
theorem dec_enc {l : List Step} (h : may l = (0, 0)) (hv : InV l) : dec (enc l) = .ok l := by
  have := dec_enc_more h hv [] (by simp)
  simpa using this
/-- What is cut is too short, at its end. -/
theorem dec_cut {l : List Step} (h : may l = (0, 0)) (hv : InV l) (k : Nat) (hk : k < (enc l).length) : dec ((enc l).take k) = .error (5, k) := by
  have hl := (may_ok h).1
  have hfl := length_flat l
  have hel := length_enc l
  have hn := val_le (l.length : Int) 2 (by omega) (by omega)
  have hbl : ((enc l).take k).length = k := by rw [List.length_take]; omega
  unfold dec
  rw [if_neg (by omega)]
  by_cases h5 : k < 5
  · rw [pMark_cut k h5 (by unfold enc; rw [List.append_assoc, List.take_append_of_le_length (by simp [mark]; omega)])]
  · obtain ⟨t, ht⟩ : ∃ t, (enc l).take k = mark ++ t := ⟨(le l.length 2 ++ l.flatMap encS).take (k - 5), by
      unfold enc; rw [List.append_assoc, List.take_append, List.take_of_length_le (l := mark) (by simp [mark]; omega)]; rfl⟩
    rw [pMark_of ht]
    simp only
    by_cases h7 : k < 7
    · rw [num_none (by omega)]
      simp only
      rw [hbl]
    · have e : (enc l).take k = mark ++ (le l.length 2 ++ (l.flatMap encS).take (k - 7)) := by
        unfold enc
        rw [List.take_append, List.take_of_length_le (l := mark ++ le l.length 2) (by simp [mark, length_le]; omega)]
        simp [mark, length_le]
      have g1 : num ((enc l).take k) 5 2 = some (val (le l.length 2)) := num_at (pre := mark) (x := le l.length 2) (post := (l.flatMap encS).take (k - 7)) e (length_le _ _)
      rw [g1]
      simp only
      rw [if_neg (by omega), show val (le (l.length : Int) 2) = l.length by omega]
      have := pSteps_cut l ((enc l).take k) (mark ++ le l.length 2) ((l.flatMap encS).take (k - 7)) (by rw [e]; simp) (by rw [List.length_take, Nat.min_eq_left (by omega)]) (by rw [List.length_take]; omega) (fine_of h hv)
      have e2 : (mark ++ le (l.length : Int) 2).length = 7 := by simp [length_le, mark]
      rw [e2] at this
      rw [this]
      simp only
      rw [hbl]
/-- A step that was read. -/
theorem pStep_some {b : List UInt8} {p q : Nat} {s : Step} (h : pStep b p = .ok (s, q)) : Fine s ∧ q = p + (encS s).length ∧ q ≤ b.length ∧ encS s = (b.drop p).take (encS s).length := by
  unfold pStep at h
  split at h
  · cases h
  · rename_i k hk
    have hp : p < b.length := by
      rcases Nat.lt_or_ge p b.length with h | h
      · exact h
      · rw [List.getElem?_eq_none h] at hk; cases hk
    have hdrop : b.drop p = k :: b.drop (p + 1) := by
      rw [List.drop_eq_getElem_cons hp]
      rw [List.getElem?_eq_getElem hp] at hk
      injection hk with hk
      rw [hk]
    split at h
    · cases h
    · rename_i hkk
      have hk1 : 1 ≤ (k.toNat : Int) ∧ (k.toNat : Int) ≤ 3 := by omega
      have hle1 : le (k.toNat : Int) 1 = [k] := by rw [le_one (by omega) (by omega)]; simp
      split at h
      · cases h
      · rename_i n hn
        have hn' := le_num hn
        obtain ⟨n1, n2, n3⟩ := num_some hn
        have n4 := val_lt ((b.drop (p + 1)).take 4)
        rw [n3, ← n2] at n4
        split at h
        · rename_i h2
          split at h
          · cases h
          · rename_i v hv
            injection h with h
            simp only [Prod.mk.injEq] at h
            obtain ⟨rfl, rfl⟩ := h
            have hv' := le_num hv
            obtain ⟨v1, v2, v3⟩ := num_some hv
            have v4 := val_lt ((b.drop (p + 5)).take 8)
            rw [v3, ← v2] at v4
            have hw : le (wrap64 (v : Int)) 8 = le (v : Int) 8 := by
              by_cases hc : (v : Int) ≤ 9223372036854775807
              · rw [show wrap64 (v : Int) = v by unfold wrap64; omega]
              · have e := le_add 8 (v : Int) (-1)
                rw [← e]
                congr 1
                unfold wrap64; omega
            have hl : (encS ⟨k.toNat, n, wrap64 v⟩).length = 13 := by rw [length_encS]; simp only; rw [if_pos (by omega)]
            refine ⟨⟨?_, by simp only; unfold wrap64; omega, by simp only; unfold wrap64; omega⟩, by rw [hl], by omega, ?_⟩
            · unfold wrong; simp only; rw [if_neg (by omega), if_neg (by omega), if_neg (by omega)]
            · rw [hl]
              unfold encS
              simp only
              rw [if_pos (by omega), hle1, hn', hw, hv', hdrop, List.take_succ_cons, List.cons_append, List.nil_append, List.cons_append]
              congr 1
              rw [show (12 : Nat) = 4 + 8 from rfl, List.take_add, List.drop_drop]
        · rename_i h2
          injection h with h
          simp only [Prod.mk.injEq] at h
          obtain ⟨rfl, rfl⟩ := h
          have hl : (encS ⟨k.toNat, n, 0⟩).length = 5 := by rw [length_encS]; simp only; rw [if_neg (by omega)]
          refine ⟨⟨?_, by simp, by simp⟩, by rw [hl], by omega, ?_⟩
          · unfold wrong; simp only; rw [if_neg (by omega), if_neg (by omega), if_neg (by omega)]
          · rw [hl]
            unfold encS
            simp only
            rw [if_neg (by omega), hle1, hn', hdrop, List.take_succ_cons, List.append_nil]
            rfl
theorem pSteps_some : ∀ (f : Nat) (b : List UInt8) (p q : Nat) (l : List Step), pSteps b p f = .ok (l, q) → p ≤ b.length → l.length = f ∧ (∀ s ∈ l, Fine s) ∧ q = p + (l.flatMap encS).length ∧ q ≤ b.length ∧ l.flatMap encS = (b.drop p).take (l.flatMap encS).length
  | 0, b, p, q, l, h, hp => by
    simp only [pSteps, Except.ok.injEq, Prod.mk.injEq] at h
    obtain ⟨rfl, rfl⟩ := h
    simp [hp]
  | f + 1, b, p, q, l, h, hp => by
    simp only [pSteps] at h
    split at h
    · cases h
    · rename_i s q1 h1
      split at h
      · cases h
      · rename_i l' r h2
        simp only [Except.ok.injEq, Prod.mk.injEq] at h
        obtain ⟨rfl, rfl⟩ := h
        obtain ⟨a1, a2, a3, a4⟩ := pStep_some h1
        obtain ⟨b1, b2, b3, b4, b5⟩ := pSteps_some f b q1 r l' h2 a3
        refine ⟨by simp [b1], ?_, by rw [List.flatMap_cons, List.length_append]; omega, b4, ?_⟩
        · intro x hx
          rcases List.mem_cons.1 hx with rfl | hx
          · exact a1
          · exact b2 x hx
        · rw [List.flatMap_cons, List.length_append, List.take_add, ← a4, List.drop_drop, ← a2, ← b5]
theorem pMark_some {b : List UInt8} (h : pMark b 0 5 = .ok ()) : b = mark ++ b.drop 5 := by
  match b with
  | [] => simp [pMark] at h
  | [a] => simp [pMark, mark] at h; split at h <;> simp at h
  | [a, b] => simp [pMark, mark] at h; (repeat' split at h) <;> simp at h
  | [a, b, c] => simp [pMark, mark] at h; (repeat' split at h) <;> simp at h
  | [a, b, c, d] => simp [pMark, mark] at h; (repeat' split at h) <;> simp at h
  | a :: b :: c :: d :: e :: t =>
    simp [pMark, mark] at h
    (repeat' split at h) <;> simp at h
    rename_i h1 h2 h3 h4 h5
    simp [mark, h1, h2, h3, h4, h5]
/-- Back and there. -/
theorem enc_dec {b : List UInt8} {l : List Step} (h : dec b = .ok l) : may l = (0, 0) ∧ InV l ∧ enc l = b := by
  unfold dec at h
  split at h
  · cases h
  · split at h
    · cases h
    · rename_i hm
      have hmk := pMark_some hm
      split at h
      · cases h
      · rename_i n hn
        have hn' := le_num hn
        obtain ⟨n1, n2, n3⟩ := num_some hn
        split at h
        · cases h
        · split at h
          · cases h
          · rename_i l' r hs
            split at h
            · cases h
            · rename_i hr
              simp only [Except.ok.injEq] at h
              subst h
              obtain ⟨b1, b2, b3, b4, b5⟩ := pSteps_some _ _ _ _ _ hs (by omega)
              refine ⟨may_of (by omega) fun s hs => (b2 s hs).1, fun s hs => (b2 s hs).2, ?_⟩
              have e1 : l'.flatMap encS = b.drop 7 := by
                rw [b5, List.take_of_length_le]; rw [List.length_drop]; omega
              unfold enc
              rw [b1, hn', e1]
              rw [show b.drop 7 = (b.drop 5).drop 2 by rw [List.drop_drop], List.append_assoc, List.take_append_drop]
              exact hmk.symm
/-- Where something is wrong. -/
theorem pStep_err {b : List UInt8} {p : Nat} {e : Int × Int} (h : pStep b p = .error e) (hp : p ≤ b.length) : (e.1 = 5 ∨ e.1 = 1) ∧ 0 ≤ e.2 ∧ e.2 ≤ b.length := by
  unfold pStep at h
  (repeat' split at h) <;> first | (cases h; done) | (cases h; simp; try omega)
theorem pSteps_err : ∀ (f : Nat) (b : List UInt8) (p : Nat) (e : Int × Int), pSteps b p f = .error e → p ≤ b.length → (e.1 = 5 ∨ e.1 = 1) ∧ 0 ≤ e.2 ∧ e.2 ≤ b.length
  | 0, b, p, e, h, hp => by simp [pSteps] at h
  | f + 1, b, p, e, h, hp => by
    simp only [pSteps] at h
    split at h
    · rename_i h1; cases h; exact pStep_err h1 hp
    · rename_i s q1 h1
      have := (pStep_some h1).2.2.1
      split at h
      · rename_i h2; cases h; exact pSteps_err f b q1 _ h2 this
      · cases h
theorem pMark_err : ∀ (f i : Nat) (b : List UInt8) (e : Int × Int), pMark b i f = .error e → (e.1 = 5 ∨ e.1 = 4) ∧ 0 ≤ e.2 ∧ e.2 ≤ b.length
  | 0, i, b, e, h => by simp [pMark] at h
  | f + 1, i, b, e, h => by
    simp only [pMark] at h
    split at h
    · cases h; simp
    · rename_i c hc
      have : i < b.length := by
        rcases Nat.lt_or_ge i b.length with h | h
        · exact h
        · rw [List.getElem?_eq_none h] at hc; cases hc
      split at h
      · exact pMark_err f (i + 1) b e h
      · cases h; simp; omega
theorem dec_err {b : List UInt8} {e : Int × Int} (h : dec b = .error e) : e.1 ≠ 0 ∧ 0 ≤ e.2 ∧ e.2 ≤ b.length := by
  unfold dec at h
  split at h
  · cases h; simp; omega
  · split at h
    · rename_i hm
      cases h
      have := pMark_err _ _ _ _ hm
      omega
    · split at h
      · cases h; simp
      · rename_i n hn
        obtain ⟨n1, _⟩ := num_some hn
        split at h
        · cases h; simp; omega
        · split at h
          · rename_i hs
            cases h
            have := pSteps_err _ _ _ _ hs (by omega)
            omega
          · split at h
            · cases h; simp; omega
            · cases h
/-! ### Decode, as it goes on -/
/-- .. behind the steps l, at the place p, with f to go. -/
def fin (b : List UInt8) (l : List Step) (p f : Nat) : Except (Int × Int) (List Step) :=
  match pSteps b p f with
  | .error e => .error e
  | .ok (m, r) => if r < b.length then .error (6, r) else .ok (l ++ m)
theorem fin_ok {b : List UInt8} {l : List Step} {p q f : Nat} {s : Step} (h : pStep b p = .ok (s, q)) : fin b l p (f + 1) = fin b (l ++ [s]) q f := by
  simp only [fin, pSteps, h]
  cases pSteps b q f with
  | error e => rfl
  | ok x => obtain ⟨m, r⟩ := x; simp
theorem fin_err {b : List UInt8} {l : List Step} {p f : Nat} {e : Int × Int} (h : pStep b p = .error e) : fin b l p (f + 1) = .error e := by simp only [fin, pSteps, h]
theorem fin_rest {b : List UInt8} {l : List Step} {p : Nat} (h : p < b.length) : fin b l p 0 = .error (6, p) := by simp only [fin, pSteps]; rw [if_pos h]
theorem fin_done {b : List UInt8} {l : List Step} {p : Nat} (h : ¬ p < b.length) : fin b l p 0 = .ok l := by simp only [fin, pSteps]; rw [if_neg h, List.append_nil]
/-- .. behind the mark. -/
def headed (b : List UInt8) : Except (Int × Int) (List Step) :=
  match num b 5 2 with
  | none => .error (5, b.length)
  | some n => if 1024 < n then .error (3, 5) else fin b [] 7 n
/-- .. behind k bytes of the mark. -/
def marked (b : List UInt8) (k : Nat) : Except (Int × Int) (List Step) :=
  match pMark b k (5 - k) with
  | .error e => .error e
  | .ok _ => headed b
theorem dec_marked {b : List UInt8} (h : b.length ≤ 1048576) : dec b = marked b 0 := by
  unfold dec marked headed
  rw [if_neg (by omega)]
  cases pMark b 0 5 with
  | error e => rfl
  | ok u =>
    simp only
    cases num b 5 2 with
    | none => rfl
    | some n =>
      simp only
      split
      · rfl
      · unfold fin
        cases pSteps b 7 n with
        | error e => rfl
        | ok x => obtain ⟨m, r⟩ := x; simp
/-- A byte of the mark. -/
def markB (k : Nat) : UInt8 := mark.getD k 0
theorem marked_end {b : List UInt8} {k : Nat} (hk : k < 5) (h : b.length ≤ k) : marked b k = .error (5, b.length) := by
  obtain ⟨f, hf⟩ : ∃ f, 5 - k = f + 1 := ⟨4 - k, by omega⟩
  unfold marked
  rw [hf, pMark, List.getElem?_eq_none h]
theorem marked_form {b : List UInt8} {k : Nat} (hk : k < 5) (h : k < b.length) (hne : b[k] ≠ markB k) : marked b k = .error (4, k) := by
  obtain ⟨f, hf⟩ : ∃ f, 5 - k = f + 1 := ⟨4 - k, by omega⟩
  have hm : mark[k]? = some (markB k) := by unfold markB; rw [List.getD_eq_getElem?_getD, List.getElem?_eq_getElem (show k < mark.length from hk)]; rfl
  unfold marked
  rw [hf, pMark, List.getElem?_eq_getElem h]
  simp only
  rw [if_neg (by rw [hm]; simpa using hne)]
theorem marked_next {b : List UInt8} {k : Nat} (hk : k < 5) (h : k < b.length) (he : b[k] = markB k) : marked b k = marked b (k + 1) := by
  obtain ⟨f, hf⟩ : ∃ f, 5 - k = f + 1 := ⟨4 - k, by omega⟩
  have hm : mark[k]? = some (markB k) := by unfold markB; rw [List.getD_eq_getElem?_getD, List.getElem?_eq_getElem (show k < mark.length from hk)]; rfl
  unfold marked
  rw [hf, pMark, List.getElem?_eq_getElem h]
  simp only
  rw [if_pos (by rw [hm, he]), show 5 - (k + 1) = f by omega]
theorem marked_all (b : List UInt8) : marked b 5 = headed b := rfl
end Go.ScriptP
