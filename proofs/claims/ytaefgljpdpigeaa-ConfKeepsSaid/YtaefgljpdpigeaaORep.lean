/- Data that own their memory: each list in blocks of its own. Over any program. -/
import Derived.Test.YtaefgljpdpigeaaKeep
namespace Go.Fb
open Go.RowKit
set_option linter.unusedVariables false
/-- How an α lies in memory that is its own: in blocks of F. -/
structure ORep (α : Type) where
  size : Nat
  pos : 0 < size
  own : World → (Nat → Prop) → α → List Value → Prop
  length : ∀ {w : World} {F : Nat → Prop} {x : α} {cs : List Value}, own w F x cs → cs.length = size
  kept : ∀ {w w' : World} {F G : Nat → Prop} {x : α} {cs : List Value}, own w F x cs → Kept G w w' → (∀ k, F k → ¬ G k) → own w' F x cs
  mono : ∀ {w : World} {F F' : Nat → Prop} {x : α} {cs : List Value}, own w F x cs → (∀ k, F k → F' k) → own w F' x cs
/-- A thing that leads to no memory. -/
def ORep.flat {α : Type} (size : Nat) (pos : 0 < size) (f : α → List Value) (hf : ∀ x, (f x).length = size) (P : α → Prop) : ORep α where
  size := size
  pos := pos
  own _ _ x cs := cs = f x ∧ P x
  length h := by rw [h.1]; exact hf _
  kept h _ _ := h
  mono h _ := h
/-- A slice that owns its memory, its things' too. -/
def OSl {α : Type} (O : ORep α) (w : World) (F : Nat → Prop) (A : Option Addr) (n c : Nat) (l : List α) : Prop :=
  ∃ (r : Option Nat) (xs : List Value) (Fi : Nat → Nat → Prop), Row w O.size r A n c xs ∧ n = l.length ∧ (∀ k, r = some k → F k) ∧ (∀ i k, Fi i k → F k ∧ r ≠ some k) ∧ (∀ i j k, i ≠ j → Fi i k → ¬ Fi j k) ∧
    ∀ i (h : i < l.length), O.own w (Fi i) l[i] ((xs.drop (i * O.size)).take O.size)
section
variable {α : Type} {O : ORep α} {w w' : World} {F F' G : Nat → Prop} {A : Option Addr} {n c : Nat} {l : List α}
theorem OSl.len (h : OSl O w F A n c l) : n = l.length := by
  obtain ⟨r, xs, Fi, h1, h2, -⟩ := h
  exact h2
theorem OSl.bound (h : OSl O w F A n c l) : n ≤ c ∧ c ≤ 9223372036854775807 := by
  obtain ⟨r, xs, Fi, h1, -⟩ := h
  exact h1.bound
theorem OSl.nil : OSl O w F none 0 0 [] := ⟨none, [], fun _ _ => False, Row.nil _ _, rfl, by simp, by simp, by simp, fun i hi => absurd hi (Nat.not_lt_zero _)⟩
theorem OSl.kept (h : OSl O w F A n c l) (hk : Kept G w w') (hg : ∀ k, F k → ¬ G k) : OSl O w' F A n c l := by
  obtain ⟨r, xs, Fi, h1, h2, h3, h4, h5, h6⟩ := h
  exact ⟨r, xs, Fi, h1.of_kept O.pos hk fun k e => hg k (h3 k e), h2, h3, h4, h5, fun i hi => O.kept (h6 i hi) hk fun k e => hg k (h4 i k e).1⟩
theorem OSl.new (h : OSl O w F A n c l) (hk : New w w') : OSl O w' F A n c l := h.kept hk fun _ _ h => h
theorem OSl.mono (h : OSl O w F A n c l) (hF : ∀ k, F k → F' k) : OSl O w F' A n c l := by
  obtain ⟨r, xs, Fi, h1, h2, h3, h4, h5, h6⟩ := h
  exact ⟨r, xs, Fi, h1, h2, fun k e => hF k (h3 k e), fun i k e => ⟨hF k (h4 i k e).1, (h4 i k e).2⟩, h5, h6⟩
theorem drop_take_get {xs : List Value} {i s j : Nat} (hj : j < s) : ((xs.drop (i * s)).take s)[j]? = xs[i * s + j]? := by
  rw [List.getElem?_take, if_pos hj, List.getElem?_drop]
/-- The thing at a place. -/
theorem OSl.at_ (h : OSl O w F A n c l) (i : Nat) (hi : i < l.length) : ∃ g o cs Fi, A = some ⟨g, o, none⟩ ∧ F g ∧ (∀ k, Fi k → F k ∧ k ≠ g) ∧ O.own w Fi l[i] cs ∧ ∀ j, j < O.size → w.cell? ⟨g, o + i * O.size + j, none⟩ = cs[j]? ∧ w.frozen? ⟨g, o + i * O.size + j, none⟩ = false := by
  obtain ⟨r, xs, Fi, h1, h2, h3, h4, h5, h6⟩ := h
  obtain ⟨g, o, e1, e2, hc⟩ := h1.at_index (k := i) (by omega)
  refine ⟨g, o, _, Fi i, e2, h3 g e1, fun k e => ⟨(h4 i k e).1, fun e' => (h4 i k e).2 (by rw [e', e1])⟩, h6 i hi, fun j hj => ?_⟩
  obtain ⟨v, q1, q2, q3⟩ := hc j hj
  refine ⟨?_, q3⟩
  rw [drop_take_get hj, q1, q2]
/-- Another thing is laid at a place: the row's block alone is written. -/
theorem OSl.put (h : OSl O w F A n c l) {i : Nat} (hi : i < l.length) {w2 : World} {x : α} {cs : List Value} {Fx : Nat → Prop} {g o : Nat} (hA : A = some ⟨g, o, none⟩)
    (hk : Kept (fun k => k = g) w w2) (hcs : ∀ j, j < O.size → w2.cell? ⟨g, o + i * O.size + j, none⟩ = cs[j]?) (hother : ∀ j, ¬ (i * O.size ≤ j ∧ j < i * O.size + O.size) → w2.cell? ⟨g, o + j, none⟩ = w.cell? ⟨g, o + j, none⟩) (hfr : ∀ j, w2.frozen? ⟨g, o + j, none⟩ = w.frozen? ⟨g, o + j, none⟩)
    (hx : O.own w2 Fx x cs) (hFx : ∀ k, Fx k → ¬ F k) : OSl O w2 (fun k => F k ∨ Fx k) A n c (l.set i x) := by
  obtain ⟨r, xs, Fi, h1, h2, h3, h4, h5, h6⟩ := h
  have hlen := O.length hx
  have hxl := h1.length
  have hin : i < n := by omega
  obtain ⟨g', o', e1, e2, hc5, hc6⟩ := h1.at_pos (by have := h1.le; omega)
  rw [hA] at e2
  injection e2 with e2
  injection e2 with eg eo
  subst eg; subst eo
  have k1 : i * O.size + O.size ≤ n * O.size := by rw [← Nat.succ_mul]; exact Nat.mul_le_mul_right _ hin
  have hpos := O.pos
  have hys : ∀ j, (xs.take (i * O.size) ++ cs ++ xs.drop (i * O.size + O.size))[j]? = if i * O.size ≤ j ∧ j < i * O.size + O.size then cs[j - i * O.size]? else xs[j]? := by
    intro j
    have hl1 : (xs.take (i * O.size)).length = i * O.size := by rw [List.length_take]; omega
    by_cases c1 : j < i * O.size
    · rw [if_neg (by omega), List.append_assoc, List.getElem?_append_left (by omega), List.getElem?_take, if_pos c1]
    · by_cases c2 : j < i * O.size + O.size
      · rw [if_pos (by omega), List.append_assoc, List.getElem?_append_right (by omega), hl1, List.getElem?_append_left (by omega)]
      · rw [if_neg (by omega), List.getElem?_append_right (by rw [List.length_append]; omega), List.length_append, hl1, hlen, List.getElem?_drop]
        congr 1; omega
  refine ⟨r, xs.take (i * O.size) ++ cs ++ xs.drop (i * O.size + O.size), fun j k => if j = i then Fx k else Fi j k, ⟨?_, .inr ⟨by have := h1.le; omega, g, o, e1, hA, h1.le, h1.max, fun j hj => ?_, fun j hj => ⟨?_, by rw [hfr j]; exact (hc6 j hj).2⟩⟩⟩, by rw [List.length_set]; exact h2, fun k e => .inl (h3 k e), ?_, ?_, ?_⟩
  · rw [List.length_append, List.length_append, List.length_take, List.length_drop]; omega
  · rw [hys j]
    by_cases c1 : i * O.size ≤ j ∧ j < i * O.size + O.size
    · rw [if_pos c1]
      have := hcs (j - i * O.size) (by omega)
      rw [show o + i * O.size + (j - i * O.size) = o + j by omega] at this
      exact this
    · rw [if_neg c1, hother j c1]; exact hc5 j hj
  · by_cases c1 : i * O.size ≤ j ∧ j < i * O.size + O.size
    · have := hcs (j - i * O.size) (by omega)
      rw [show o + i * O.size + (j - i * O.size) = o + j by omega] at this
      rw [this, List.getElem?_eq_getElem (by omega)]; rfl
    · rw [hother j c1]; exact (hc6 j hj).1
  · intro j k e
    by_cases c1 : j = i
    · rw [if_pos c1] at e
      exact ⟨.inr e, fun e' => hFx k e (h3 k e')⟩
    · rw [if_neg c1] at e
      exact ⟨.inl (h4 j k e).1, (h4 j k e).2⟩
  · intro j j' k hne e e'
    by_cases c1 : j = i
    · rw [if_pos c1] at e
      rw [if_neg (by omega)] at e'
      exact hFx k e (h4 _ k e').1
    · rw [if_neg c1] at e
      by_cases c2 : j' = i
      · rw [if_pos c2] at e'
        exact hFx k e' (h4 _ k e).1
      · rw [if_neg c2] at e'
        exact h5 j j' k hne e e'
  · intro j hj
    rw [List.length_set] at hj
    have ht : ((xs.take (i * O.size) ++ cs ++ xs.drop (i * O.size + O.size)).drop (j * O.size)).take O.size = if j = i then cs else (xs.drop (j * O.size)).take O.size := by
      refine List.ext_getElem? fun m => ?_
      by_cases hm : m < O.size
      · rw [drop_take_get hm, hys]
        by_cases c1 : j = i
        · subst c1
          rw [if_pos (by omega), if_pos rfl, Nat.add_sub_cancel_left]
        · have : ¬ (i * O.size ≤ j * O.size + m ∧ j * O.size + m < i * O.size + O.size) := by
            rcases Nat.lt_or_gt_of_ne c1 with c | c
            · have : j * O.size + O.size ≤ i * O.size := by rw [← Nat.succ_mul]; exact Nat.mul_le_mul_right _ c
              omega
            · have : i * O.size + O.size ≤ j * O.size := by rw [← Nat.succ_mul]; exact Nat.mul_le_mul_right _ c
              omega
          rw [if_neg this, if_neg c1, drop_take_get hm]
      · rw [List.getElem?_take, if_neg hm]
        split
        · rw [List.getElem?_eq_none (by omega)]
        · rw [List.getElem?_take, if_neg hm]
    rw [ht]
    by_cases c1 : j = i
    · subst c1
      rw [if_pos rfl, List.getElem_set_self]
      have : (fun k => if j = j then Fx k else Fi j k) = Fx := by funext k; rw [if_pos rfl]
      show O.own w2 (fun k => if j = j then Fx k else Fi j k) x cs
      rw [this]; exact hx
    · rw [if_neg c1, List.getElem_set_ne (by omega)]
      have : (fun k => if j = i then Fx k else Fi j k) = Fi j := by funext k; rw [if_neg c1]
      show O.own w2 (fun k => if j = i then Fx k else Fi j k) _ _
      rw [this]
      exact O.kept (h6 j hj) hk fun k e e' => (h4 j k e).2 (by rw [e1, e'])
/-- .. of things that lead to no memory, out of a row. -/
theorem OSl.of_row {f : α → List Value} {r : Option Nat} (h : Row w O.size r A n c (l.flatMap f)) (hf : ∀ x ∈ l, (f x).length = O.size) (hn : n = l.length) (hF : ∀ k, r = some k → F k) (ho : ∀ x ∈ l, O.own w (fun _ => False) x (f x)) : OSl O w F A n c l := by
  refine ⟨r, l.flatMap f, fun _ _ => False, h, hn, hF, fun _ _ e => e.elim, fun _ _ _ _ e => e.elim, fun i hi => ?_⟩
  have : ((l.flatMap f).drop (i * O.size)).take O.size = f l[i] := by
    refine List.ext_getElem? fun m => ?_
    have hl := hf _ (List.getElem_mem hi)
    by_cases hm : m < O.size
    · rw [drop_take_get hm]; exact flatMap_get l hf i hi m hm
    · rw [List.getElem?_take, if_neg hm, List.getElem?_eq_none (by omega)]
  rw [this]
  exact ho _ (List.getElem_mem hi)
/-- Lists of other things that lie so. -/
theorem OSl.map {β : Type} {S : ORep β} {m : List β} (h : OSl O w F A n c l) (hs : S.size = O.size) (hl : m.length = l.length) (hm : ∀ i (h1 : i < l.length) (h2 : i < m.length) (G : Nat → Prop) cs, (∀ k, G k → F k) → O.own w G l[i] cs → S.own w G m[i] cs) : OSl S w F A n c m := by
  obtain ⟨r, xs, Fi, h1, h2, h3, h4, h5, h6⟩ := h
  refine ⟨r, xs, Fi, by rw [hs]; exact h1, by omega, h3, h4, h5, fun i hi => ?_⟩
  rw [hs]
  exact hm i (by omega) hi _ _ (fun k e => (h4 i k e).1) (h6 i (by omega))
end
/-- A slice, as one cell. -/
def ORep.slice {α : Type} (O : ORep α) : ORep (List α) where
  size := 1
  pos := Nat.zero_lt_one
  own w F l cs := ∃ A n c, cs = [.slice A n c] ∧ OSl O w F A n c l
  length h := by obtain ⟨_, _, _, h, _⟩ := h; rw [h]; rfl
  kept h hk hg := by obtain ⟨A, n, c, e, h⟩ := h; exact ⟨A, n, c, e, h.kept hk hg⟩
  mono h hF := by obtain ⟨A, n, c, e, h⟩ := h; exact ⟨A, n, c, e, h.mono hF⟩
/-- One of both: a thing of its own, or cells that are known. -/
def ORep.or {α : Type} (O : ORep α) : ORep (α ⊕ List Value) where
  size := O.size
  pos := O.pos
  own w F x cs := match x with
    | .inl x => O.own w F x cs
    | .inr ds => cs = ds ∧ ds.length = O.size
  length {w F x cs} h := by
    cases x with
    | inl x => exact O.length h
    | inr ds => obtain ⟨rfl, h⟩ := h; exact h
  kept {w w' F G x cs} h hk hg := by
    cases x with
    | inl x => exact O.kept h hk hg
    | inr ds => exact h
  mono {w F F' x cs} h hF := by
    cases x with
    | inl x => exact O.mono h hF
    | inr ds => exact h
/-- What owns its memory can be read. -/
def Reads {α : Type} (O : ORep α) (R : Rep α) : Prop := O.size = R.size ∧ ∀ {w : World} {F : Nat → Prop} {x : α} {cs : List Value}, O.own w F x cs → R.cells w w.heap.size x cs
theorem OSl.read {α : Type} {O : ORep α} {R : Rep α} (hr : Reads O R) {w : World} {F : Nat → Prop} {A : Option Addr} {n c : Nat} {l : List α} (h : OSl O w F A n c l) : SliceOf R w w.heap.size A n c l := by
  obtain ⟨r, xs, Fi, h1, h2, h3, h4, h5, h6⟩ := h
  refine ⟨h2, h1.le, h1.max, ?_⟩
  by_cases h0 : n = 0
  · exact .inl h0
  · obtain ⟨g, o, e1, e2, hc5, hc6⟩ := h1.at_pos (by have := h1.le; omega)
    refine .inr ⟨g, o, e2, h1.lt O.pos g e1, fun i hi => ⟨_, fun j hj => ?_, hr.2 (h6 i hi)⟩⟩
    rw [← hr.1] at hj ⊢
    rw [drop_take_get hj, Nat.add_assoc]
    refine hc5 _ ?_
    have : i * O.size + O.size ≤ n * O.size := by rw [← Nat.succ_mul]; exact Nat.mul_le_mul_right _ (by omega)
    omega
theorem Reads.slice {α : Type} {O : ORep α} {R : Rep α} (hr : Reads O R) : Reads O.slice R.slice := ⟨rfl, fun {w F x cs} h => by
  obtain ⟨A, n, c, e, h⟩ := h
  exact ⟨A, n, c, e, h.read hr⟩⟩
/-- A slice that is read, with the cells of each thing. -/
def Rep.known {α : Type} (R : Rep α) : Rep (α × List Value) where
  size := R.size
  cells w B x cs := cs = x.2 ∧ R.cells w B x.1 x.2
  length h := by rw [h.1]; exact R.length h.2
  stays hw h := ⟨h.1, R.stays hw h.2⟩
  more hB h := ⟨h.1, R.more hB h.2⟩
theorem SliceOf.known {α : Type} {R : Rep α} {w : World} {B : Nat} {A : Option Addr} {n c : Nat} {l : List α} (h : SliceOf R w B A n c l) : ∃ lp : List (α × List Value), lp.map (·.1) = l ∧ SliceOf R.known w B A n c lp := by
  by_cases h0 : n = 0
  · obtain rfl : l = [] := List.eq_nil_of_length_eq_zero (by have := h.len; omega)
    exact ⟨[], rfl, h.1, h.2.1, h.2.2.1, .inl h0⟩
  · obtain ⟨b, o, e, hb, hc⟩ := h.get (by omega)
    have hl := h.len
    have : ∃ f : Nat → List Value, ∀ i (hi : i < l.length), (∀ j, j < R.size → w.cell? ⟨b, o + i * R.size + j, none⟩ = (f i)[j]?) ∧ R.cells w B l[i] (f i) :=
      ⟨fun i => if hi : i < l.length then (hc i hi).choose else [], fun i hi => by simp only [hi, dif_pos]; exact (hc i hi).choose_spec⟩
    obtain ⟨f, hf⟩ := this
    refine ⟨l.mapIdx fun i x => (x, f i), ?_, by rw [List.length_mapIdx]; exact hl, h.2.1, h.2.2.1, .inr ⟨b, o, e, hb, fun i hi => ?_⟩⟩
    · refine List.ext_getElem (by simp) fun i h1 h2 => by simp
    · rw [List.length_mapIdx] at hi
      refine ⟨f i, (hf i hi).1, ?_, ?_⟩
      · simp
      · simpa using (hf i hi).2
theorem SliceOf.src_of {α : Type} {R : Rep α} {f : α → List Value} {P : Program} {t e : TypeId} (ht : P.underlying t = some (.slice e)) {w : World} {B : Nat} {A : Option Addr} {n c : Nat} {l : List α}
    (hf : ∀ x ∈ l, ∀ {cs}, R.cells w B x cs → cs = f x) (h1 : ∀ x ∈ l, ∀ u ∈ f x, u.oneCell' = true) (h : SliceOf R w B A n c l) : Go.Src P R.size t (.slice A n c) n (l.flatMap f) w := by
  have hn := h.len
  have hone : ∀ u ∈ l.flatMap f, u.oneCell' = true := by
    intro u hu
    obtain ⟨x, hxl, hx⟩ := List.mem_flatMap.1 hu
    exact h1 x hxl u hx
  by_cases h0 : n = 0
  · subst h0
    obtain rfl : l = [] := List.eq_nil_of_length_eq_zero hn.symm
    cases A with
    | none => exact Go.Src.ofNil w ht c
    | some a => exact Go.Src.ofSlice w ht a 0 c [] (by simp) (by simp) (by simp)
  · obtain ⟨b, o, rfl, _, hc⟩ := h.get (by omega)
    have hlen : ∀ x ∈ l, (f x).length = R.size := by
      intro x hx
      obtain ⟨i, hi, rfl⟩ := List.mem_iff_getElem.1 hx
      obtain ⟨es, _, g⟩ := hc i hi
      rw [← hf _ (List.getElem_mem hi) g]; exact R.length g
    have hfl := flatMap_len l hlen
    refine Go.Src.ofSlice w ht ⟨b, o, none⟩ n c (l.flatMap f) (by rw [hfl, ← hn]) (fun j u hu => ?_) hone
    have hjl : j < l.length * R.size := by
      rcases Nat.lt_or_ge j (l.flatMap f).length with h | h
      · omega
      · rw [List.getElem?_eq_none h] at hu; cases hu
    have hs : 0 < R.size := by
      rcases Nat.eq_zero_or_pos R.size with h | h
      · rw [h] at hjl; omega
      · exact h
    have hi : j / R.size < l.length := Nat.div_lt_of_lt_mul (by rw [Nat.mul_comm]; exact hjl)
    obtain ⟨es, g1, g2⟩ := hc _ hi
    have g3 := hf _ (List.getElem_mem hi) g2
    subst g3
    have hm := Nat.mod_lt j hs
    have he : j / R.size * R.size + j % R.size = j := by rw [Nat.mul_comm]; exact Nat.div_add_mod j R.size
    have g4 := g1 _ hm
    rw [Nat.add_assoc, he, ← flatMap_get l hlen _ hi _ hm, he] at g4
    rw [add_eq, g4]
    exact hu
theorem SliceOf.cells_mem {α : Type} {R : Rep α} {w : World} {B : Nat} {A : Option Addr} {n c : Nat} {l : List α} (h : SliceOf R w B A n c l) : ∀ x ∈ l, ∃ es, R.cells w B x es := by
  intro x hx
  obtain ⟨i, hi, rfl⟩ := List.mem_iff_getElem.1 hx
  obtain ⟨b, o, e, hb, hc⟩ := h.get (by have := h.len; omega)
  obtain ⟨es, _, g⟩ := hc i hi
  exact ⟨es, g⟩
/-- .. as what is appended, the cells of each thing told. -/
theorem SliceOf.src_known {α : Type} {R : Rep α} {P : Program} {t e : TypeId} (ht : P.underlying t = some (.slice e)) {w : World} {B : Nat} {A : Option Addr} {n c : Nat} {lp : List (α × List Value)}
    (h1 : ∀ {w B x cs}, R.cells w B x cs → ∀ u ∈ cs, u.oneCell' = true) (h : SliceOf R.known w B A n c lp) : Go.Src P R.size t (.slice A n c) n (lp.flatMap (·.2)) w :=
  h.src_of (R := R.known) ht (fun x _ {cs} hx => hx.1) (fun x hx u hu => by
    obtain ⟨es, _, g⟩ := h.cells_mem x hx
    exact h1 g u hu)
/-- A thing is written over, all its cells. -/
theorem OSl.setCells {α : Type} {O : ORep α} {w : World} {F : Nat → Prop} {A : Option Addr} {n c : Nat} {l : List α} (h : OSl O w F A n c l) {i : Nat} (hi : i < l.length) {x : α} {cs : List Value} {Fx : Nat → Prop} {g o : Nat} (hA : A = some ⟨g, o, none⟩)
    (hx : O.own w Fx x cs) (hFx : ∀ k, Fx k → ¬ F k) : OSl O (w.setCells g (o + i * O.size) cs) (fun k => F k ∨ Fx k) A n c (l.set i x) := by
  have hlen := O.length hx
  have hall : ∀ j, j < n * O.size → (w.cell? ⟨g, o + j, none⟩).isSome = true := by
    obtain ⟨r, xs, Fi, h1, -⟩ := h
    intro j hj
    obtain ⟨g', o', e1, e2, h5, h6⟩ := h1.at_pos (by
      have := h1.le
      rcases Nat.eq_zero_or_pos n with e | e
      · rw [e] at hj; omega
      · omega)
    rw [hA] at e2
    injection e2 with e2
    injection e2 with eg eo
    subst eg; subst eo
    exact (h6 j (Nat.lt_of_lt_of_le hj (Nat.mul_le_mul_right _ h1.le))).1
  have hg : F g := by
    obtain ⟨g', o', cs', Fi, e2, h3, -⟩ := h.at_ i hi
    rw [hA] at e2
    injection e2 with e2
    injection e2 with eg eo
    subst eg
    exact h3
  have hn := h.len
  have k1 : i * O.size + O.size ≤ n * O.size := by rw [← Nat.succ_mul]; exact Nat.mul_le_mul_right _ (by omega)
  have hk : Kept (fun k => k = g) w (w.setCells g (o + i * O.size) cs) := Kept.setCells _ _ _ (Kept.refl _ _) (.inr rfl)
  refine h.put hi hA hk (fun j hj => ?_) (fun j hj => ?_) (fun j => World.frozen?_setCells ..) (O.kept hx hk fun k e e' => hFx k e (by rw [e']; exact hg)) hFx
  · rw [World.cell?_setCells_in g cs _ w (fun j hj => by rw [Nat.add_assoc]; exact hall _ (by omega)) j (by omega), List.getElem?_eq_getElem (by omega)]
  · rw [World.cell?_setCells_out g cs _ w ⟨g, o + j, none⟩ (fun _ _ => ?_)]
    simp only
    omega
theorem OSl.set1 {α : Type} {O : ORep α} {w : World} {F : Nat → Prop} {A : Option Addr} {n c : Nat} {l : List α} (h : OSl O w F A n c l) (hs : O.size = 1) {i : Nat} (hi : i < l.length) {x : α} {v : Value} {Fx : Nat → Prop} {g o : Nat} (hA : A = some ⟨g, o, none⟩)
    (hx : O.own w Fx x [v]) (hFx : ∀ k, Fx k → ¬ F k) : OSl O (w.setCell ⟨g, o + i, none⟩ v) (fun k => F k ∨ Fx k) A n c (l.set i x) := by
  have := h.setCells hi hA hx hFx
  rw [hs, Nat.mul_one] at this
  exact this
/-- The first two cells of a thing of four whose cells are known. -/
theorem OSl.set01 {α : Type} {O : ORep α} {w : World} {F : Nat → Prop} {A : Option Addr} {n c : Nat} {l : List (α ⊕ List Value)} (h : OSl O.or w F A n c l) (hs : O.size = 4) {i : Nat} (hi : i < l.length) {c0 c1 c2 c3 : Value} (he : l[i] = .inr [c0, c1, c2, c3]) {x : α} {v1 v2 : Value} {Fx : Nat → Prop} {g o : Nat} (hA : A = some ⟨g, o, none⟩)
    (hx : O.own w Fx x [v1, v2, c2, c3]) (hFx : ∀ k, Fx k → ¬ F k) : OSl O.or ((w.setCell ⟨g, o + i * 4, none⟩ v1).setCell ⟨g, o + i * 4 + 1, none⟩ v2) (fun k => F k ∨ Fx k) A n c (l.set i (.inl x)) := by
  have hs' : O.or.size = 4 := hs
  obtain ⟨g', o', cs, Fi, e2, hg, hFi, hown, hc⟩ := h.at_ i hi
  rw [hA] at e2
  injection e2 with e2
  injection e2 with eg eo
  subst eg; subst eo
  rw [he] at hown
  obtain ⟨rfl, -⟩ := hown
  rw [hs'] at hc
  have k0 := (hc 0 (by decide)).1
  have k1 := (hc 1 (by decide)).1
  have k2 := (hc 2 (by decide)).1
  have k3 := (hc 3 (by decide)).1
  simp only [Nat.add_zero, List.getElem?_cons_zero, List.getElem?_cons_succ] at k0 k1 k2 k3
  have hne : ∀ a b : Nat, a ≠ b → (⟨g, a, none⟩ : Addr) ≠ ⟨g, b, none⟩ := fun a b h e => h (by injection e)
  have y1 : (w.setCell ⟨g, o + i * 4, none⟩ v1).cell? ⟨g, o + i * 4 + 1, none⟩ = some c1 := by rw [World.cell?_setCell_other _ _ _ _ (hne _ _ (by omega))]; exact k1
  refine h.put hi hA ((Kept.set1 w g _ v1).trans (Kept.set1 _ g _ v2)) (cs := [v1, v2, c2, c3]) (fun j hj => ?_) (fun j hj => ?_) (fun j => by rw [World.frozen?_setCell, World.frozen?_setCell]) (O.kept hx ((Kept.set1 w g _ v1).trans (Kept.set1 _ g _ v2)) fun k e e' => hFx k e (by rw [e']; exact hg)) hFx
  · rw [hs'] at hj ⊢
    match j, hj with
    | 0, _ =>
      show ((w.setCell ⟨g, o + i * 4, none⟩ v1).setCell ⟨g, o + i * 4 + 1, none⟩ v2).cell? ⟨g, o + i * 4, none⟩ = some v1
      rw [World.cell?_setCell_other _ _ _ _ (hne _ _ (by omega)), World.cell?_setCell_same' _ _ _ (by rw [k0]; rfl)]
    | 1, _ => rw [World.cell?_setCell_same' _ _ _ (by rw [y1]; rfl)]; rfl
    | 2, _ => rw [World.cell?_setCell_other _ _ _ _ (hne _ _ (by omega)), World.cell?_setCell_other _ _ _ _ (hne _ _ (by omega)), k2]; rfl
    | 3, _ => rw [World.cell?_setCell_other _ _ _ _ (hne _ _ (by omega)), World.cell?_setCell_other _ _ _ _ (hne _ _ (by omega)), k3]; rfl
  · rw [hs'] at hj
    rw [World.cell?_setCell_other _ _ _ _ (hne _ _ (by omega)), World.cell?_setCell_other _ _ _ _ (hne _ _ (by omega))]
/-- A block is written over from a place on. -/
theorem Blk.setFrom {T : TypeId} {b : Nat} : ∀ (vs : List Value) (o : Nat) (w : World) (cs : Array Value), Blk w b T cs → o + vs.length ≤ cs.size → Blk (w.setCells b o vs) b T (cs.toList.take o ++ vs ++ cs.toList.drop (o + vs.length)).toArray
  | [], o, w, cs, h, _ => by
    show Blk w b T _
    simpa using h
  | v :: vs, o, w, cs, h, hl => by
    show Blk ((w.setCell ⟨b, o, none⟩ v).setCells b (o + 1) vs) b T _
    rw [List.length_cons] at hl
    have h1 := Blk.setFrom vs (o + 1) (w.setCell ⟨b, o, none⟩ v) (cs.setIfInBounds o v) (h.set v) (by rw [Array.size_setIfInBounds]; omega)
    have e : ((cs.setIfInBounds o v).toList.take (o + 1) ++ vs ++ (cs.setIfInBounds o v).toList.drop (o + 1 + vs.length)) = (cs.toList.take o ++ (v :: vs) ++ cs.toList.drop (o + (v :: vs).length)) := by
      rw [Array.toList_setIfInBounds, List.drop_set_of_lt (by omega), List.take_succ_eq_append_getElem (by rw [List.length_set, Array.length_toList]; omega), List.take_set_of_le (Nat.le_refl _), List.getElem_set_self, List.length_cons]
      rw [show o + 1 + vs.length = o + (vs.length + 1) by omega]
      simp
    rw [← e]
    exact h1
theorem Blk.setAll {T : TypeId} {b : Nat} {w : World} {cs : Array Value} (h : Blk w b T cs) (vs : List Value) (hl : vs.length = cs.size) : Blk (w.setCells b 0 vs) b T vs.toArray := by
  have := Blk.setFrom vs 0 w cs h (by omega)
  rw [Nat.zero_add, hl, List.take_zero, List.nil_append, List.drop_eq_nil_of_le (by simp), List.append_nil] at this
  exact this
theorem size_setCells' (b : Nat) : ∀ (vs : List Value) (o : Nat) (w : World), (w.setCells b o vs).heap.size = w.heap.size
  | [], _, _ => rfl
  | v :: vs, o, w => (size_setCells' b vs (o + 1) (w.setCell ⟨b, o, none⟩ v)).trans (size_set w ⟨b, o, none⟩ v).symm
end Go.Fb
