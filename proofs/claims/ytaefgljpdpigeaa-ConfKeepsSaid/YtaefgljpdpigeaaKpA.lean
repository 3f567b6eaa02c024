/- A config in memory of its own, with room behind its lists (layer 14): how it lies. -/
import Derived.Test.YtaefgljpdpigeaaConfAw
import Derived.Test.YtaefgljpdpigeaaORepB
import Derived.BigQuiet
namespace Go.Fb
open Go.RowKit
set_option linter.unusedVariables false
section
variable {α : Type} {O : ORep α} {w : World} {F : Nat → Prop} {A : Option Addr} {n m c : Nat} {l : List α}
theorem OSl.head (h : OSl O w F A m c l) (hn : n ≤ m) : OSl O w F A n c (l.take n) := by
  obtain ⟨r, xs, Fi, h1, h2, h3, h4, h5, h6⟩ := h
  refine ⟨r, xs.take (n * O.size), Fi, h1.head hn, by rw [List.length_take]; omega, h3, h4, h5, fun i hi => ?_⟩
  rw [List.length_take] at hi
  rw [List.getElem_take]
  have hle : i * O.size + O.size ≤ n * O.size := by rw [← Nat.succ_mul]; exact Nat.mul_le_mul_right _ (by omega)
  have e : ((xs.take (n * O.size)).drop (i * O.size)).take O.size = (xs.drop (i * O.size)).take O.size := by
    rw [List.drop_take, List.take_take]
    congr 1
    omega
  rw [e]
  exact h6 i (by omega)
/-- Things that own nothing, behind the others: what an append leaves. -/
theorem OSl.more (h : OSl O w F A n c l) : ∃ r xs, Row w O.size r A n c xs ∧ (∀ k, r = some k → F k) ∧
    ∀ (w' : World) (r' : Option Nat) (A' : Option Addr) (c' : Nat) (l2 : List α) (ys : List Value) (F' : Nat → Prop), Row w' O.size r' A' (n + l2.length) c' (xs ++ ys) → Kept (fun k => r = some k) w w' → (∀ k, r' = some k → r = some k ∨ w.heap.size ≤ k) → (∀ k, F k → k < w.heap.size) →
      (∀ j (hj : j < l2.length), O.own w' (fun _ => False) l2[j] ((ys.drop (j * O.size)).take O.size)) → (∀ k, F k → F' k) → (∀ k, r' = some k → F' k) → OSl O w' F' A' (n + l2.length) c' (l ++ l2) := by
  obtain ⟨r, xs, Fi, h1, h2, h3, h4, h5, h6⟩ := h
  refine ⟨r, xs, h1, h3, fun w' r' A' c' l2 ys F' hr hk hr' hF hown hF1 hF3 => ?_⟩
  have hxl := h1.length
  refine ⟨r', xs ++ ys, fun i k => i < n ∧ Fi i k, hr, by rw [List.length_append]; omega, hF3, fun i k e => ⟨hF1 k (h4 i k e.2).1, fun e' => ?_⟩, fun i j k hne e e' => h5 i j k hne e.2 e'.2, fun i hi => ?_⟩
  · rcases hr' k e' with h | h
    · exact (h4 i k e.2).2 h
    · have := hF k (h4 i k e.2).1; omega
  · rw [List.length_append] at hi
    by_cases hin : i < n
    · rw [List.getElem_append_left (by omega)]
      have hle : i * O.size + O.size ≤ n * O.size := by rw [← Nat.succ_mul]; exact Nat.mul_le_mul_right _ (by omega)
      have e : ((xs ++ ys).drop (i * O.size)).take O.size = (xs.drop (i * O.size)).take O.size := by
        rw [List.drop_append_of_le_length (by omega), List.take_append_of_le_length (by rw [List.length_drop]; omega)]
      rw [e]
      exact O.mono (O.kept (h6 i (by omega)) hk fun k e e' => (h4 i k e).2 e') fun k e => ⟨hin, e⟩
    · rw [List.getElem_append_right (by omega)]
      have e : (xs ++ ys).drop (i * O.size) = ys.drop ((i - l.length) * O.size) := by
        rw [List.drop_append, List.drop_eq_nil_of_le (by rw [hxl]; exact Nat.mul_le_mul_right _ (by omega)), List.nil_append, hxl, Nat.sub_mul, h2]
      rw [e]
      exact O.mono (hown _ _) fun k e => e.elim
end
/-- append of things that were just built, as one step of a region that draws. -/
theorem step_append_many {P : Program} {W W1 : World} {t e : TypeId} {size bytes : Nat} (ty : SliceTy P t e size bytes) {ops : Array Oper} {o : Oper} {a : Act} {K : Act → World → Prop} {Q : Exit → Act → World → Prop} {E : Prop} (hgd : o.guard = none) (s x : Operand)
    (ho : o.op = .call { callee := .builtin .append, args := #[s, x], argTypes := #[t, t] }) {r : Option Nat} {A : Option Addr} {n c : Nat} {xs : List Value} (hs : a.eval s = .slice A n c) (hrow : Row W size r A n c xs)
    {g m c0 : Nat} {cs : List Value} {T : TypeId} {fr : Nat × Nat} (hW1 : W1 = W.alloc (.cells cs.toArray T fr)) (hg : g = W.heap.size) (hx : a.eval x = .slice (some ⟨g, 0, none⟩) m c0) (hl : cs.length = m * size) (h1 : ∀ u ∈ cs, u.oneCell' = true) (h63 : n + m ≤ maxLen) (hbytes : (n + m) * bytes ≤ 140737488355328)
    (h : ∀ r' A' c' w', Row w' size r' A' (n + m) c' (xs ++ cs) → Kept (fun k => r = some k) W w' → (∀ k, r' = some k → r = some k ∨ W.heap.size ≤ k) → K (a.put o.dst (.slice A' (n + m) c')) w') :
    if Region.wanted o (yielded ops a.tmps) = true then Oper.wp P o a W1 K Q else E := by
  subst hW1
  have hk : New W (W.alloc (.cells cs.toArray T fr)) := (Kept.refl _ _).alloc _
  refine step_append_row ty hgd s x ho hs (hrow.new ty.pos hk) hx (Go.Src.ofSlice _ ty.under _ m c0 cs hl (fun j u hj => ?_) h1) h63 hbytes ?_
  · have hb : (W.alloc (.cells cs.toArray T fr)).heap[W.heap.size]? = some (.cells cs.toArray T fr) := by
      show (W.heap.push _)[W.heap.size]? = _
      simp
    rw [add_eq, Nat.zero_add, hg]
    unfold World.cell?
    simp only [hb]
    simpa using hj
  · intro r' A' c' w' h1 h2 h3
    refine h r' A' c' w' h1 ((hk.mono fun _ _ h => h.elim).trans h2) fun k hk => (h3 k hk).imp id fun h => ?_
    have := (Kept.refl (fun _ => False) W).alloc (.cells cs.toArray T fr) |>.size
    omega
/-- A row that was made, appended to, and appended to again is new. -/
theorem wide_row {w w1 w2 w3 : World} {r0 r2 r3 : Option Nat} (h1 : New w w1) (hr0 : ∀ k, r0 = some k → w.heap.size ≤ k) (hk2 : Kept (fun k => r0 = some k) w1 w2) (hn2 : ∀ k, r2 = some k → r0 = some k ∨ w1.heap.size ≤ k) (hk3 : Kept (fun k => r2 = some k) w2 w3) (hn3 : ∀ k, r3 = some k → r2 = some k ∨ w2.heap.size ≤ k) :
    New w w3 ∧ ∀ k, r3 = some k → w.heap.size ≤ k := by
  have s1 := h1.size
  have s2 := hk2.size
  have hw2 : New w w2 := h1.step hk2 fun i hi e => by have := hr0 i e; omega
  have hr2 : ∀ k, r2 = some k → w.heap.size ≤ k := fun k hk => by
    rcases hn2 k hk with h | h
    · exact hr0 k h
    · omega
  refine ⟨hw2.step hk3 fun i hi e => by have := hr2 i e; omega, fun k hk => ?_⟩
  rcases hn3 k hk with h | h
  · exact hr2 k h
  · omega
end Go.Fb
namespace Go.Proofs.Ytaefgljpdpigeaa.Conf
open Go.RowKit Go.Fb Go.CodeP Go.BytesP Go.ReaderP
set_option linter.unusedVariables false
def m77 : Ins := ⟨77, 0, 0, 0, 0⟩
def m78 : Ins := ⟨78, 0, 0, 0, 0⟩
/-- A process that owns its program's memory, with room behind it. -/
def wprocO : ORep (Int × List Ins) where
  size := 2
  pos := by decide
  own w F x cs := ∃ A c, cs = [.int .i64 x.1, .slice A x.2.length c] ∧ OSl insO w F A (x.2.length + 2) c (x.2 ++ [m77, m78]) ∧ (Lit.int .i64 x.1).wf = true
  length h := by obtain ⟨_, _, h, _⟩ := h; rw [h]; rfl
  kept h hk hg := by obtain ⟨A, c, e, h, h2⟩ := h; exact ⟨A, c, e, h.kept hk hg, h2⟩
  mono h hF := by obtain ⟨A, c, e, h, h2⟩ := h; exact ⟨A, c, e, h.mono hF, h2⟩
def roomP : List ((Int × List Ins) ⊕ List Value) := [.inr [.int .i64 77, .slice none 0 0], .inr [.int .i64 78, .slice none 0 0]]
/-- A config's lists that own their memory, with room behind each. -/
def WideC (w : World) (F : Nat → Prop) (c : Cf) (Al : Option Addr) (cl : Nat) (At : Option Addr) (ct : Nat) (Ap : Option Addr) (cp : Nat) : Prop :=
  ∃ Fl Ft Fp : Nat → Prop, OSl u64O w Fl Al (c.labels.length + 2) cl (c.labels ++ [161, 162]) ∧ OSl i64O w Ft At (c.table.length + 2) ct (c.table ++ [161, 162]) ∧ OSl wprocO.or w Fp Ap (c.procs.length + 2) cp (c.procs.map .inl ++ roomP) ∧ (∀ k, Fl k ∨ Ft k ∨ Fp k → F k) ∧ (∀ k, (Fl k → ¬ Ft k ∧ ¬ Fp k) ∧ (Ft k → ¬ Fp k))
section
variable {w w' : World} {c : Cf} {Al At Ap : Option Addr} {cl ct cp : Nat}
theorem WideC.kept {F G : Nat → Prop} (h : WideC w F c Al cl At ct Ap cp) (hk : Kept G w w') (hg : ∀ k, F k → ¬ G k) : WideC w' F c Al cl At ct Ap cp := by
  obtain ⟨Fl, Ft, Fp, h1, h2, h3, h4, h5⟩ := h
  exact ⟨Fl, Ft, Fp, h1.kept hk (fun k e => hg k (h4 k (.inl e))), h2.kept hk (fun k e => hg k (h4 k (.inr (.inl e)))), h3.kept hk (fun k e => hg k (h4 k (.inr (.inr e)))), h4, h5⟩
theorem OSl.front {α : Type} {O : ORep α} {w : World} {F : Nat → Prop} {A : Option Addr} {n m c : Nat} {l t : List α} (h : OSl O w F A m c (l ++ t)) (hn : n = l.length) : OSl O w F A n c l := by
  have hm := h.len
  rw [List.length_append] at hm
  have := h.head (n := n) (by omega)
  rwa [hn, List.take_left, ← hn] at this
theorem wproc_read {w : World} {F : Nat → Prop} {A : Option Addr} {m c : Nat} {l : List (Int × List Ins)} {t : List ((Int × List Ins) ⊕ List Value)} (h : OSl wprocO.or w F A m c (l.map .inl ++ t)) : OSl procO w F A l.length c l := by
  have h1 := OSl.front (n := l.length) h (by rw [List.length_map])
  refine h1.map rfl (by rw [List.length_map]) fun i g1 g2 G cs hG ho => ?_
  rw [List.getElem_map] at ho
  obtain ⟨A', c', e, h2, h3⟩ := ho
  exact ⟨A', c', e, OSl.front h2 rfl, h3⟩
theorem WideC.read {F : Nat → Prop} (h : WideC w F c Al cl At ct Ap cp) : ReadC w.heap.size w c Al cl At ct Ap cp := by
  obtain ⟨Fl, Ft, Fp, h1, h2, h3, -⟩ := h
  exact ⟨(OSl.front h1 rfl).read reads_u64, (OSl.front h2 rfl).read reads_i64, (wproc_read h3).read reads_proc⟩
theorem u64_src {w : World} {B : Nat} {A : Option Addr} {n c : Nat} {l : List Int} (h : SliceOf (Rep.int .u64) w B A n c l) : Go.Src Try.prog 1 22 (.slice A n c) n (l.flatMap fun x => [.int .u64 x]) w :=
  SliceOf.src (R := Rep.int .u64) (f := fun x => [.int .u64 x]) (fun h => h.1) (by intro x u hu; rw [List.mem_singleton.1 hu]; rfl) Try.underlying22 h
theorem i64_src {w : World} {B : Nat} {A : Option Addr} {n c : Nat} {l : List Int} (h : SliceOf (Rep.int .i64) w B A n c l) : Go.Src Try.prog 1 23 (.slice A n c) n (l.flatMap fun x => [.int .i64 x]) w :=
  SliceOf.src (R := Rep.int .i64) (f := fun x => [.int .i64 x]) (fun h => h.1) (by intro x u hu; rw [List.mem_singleton.1 hu]; rfl) Try.underlying23 h
theorem ins_src {w : World} {B : Nat} {A : Option Addr} {n c : Nat} {l : List Ins} (h : SliceOf Code.repIns w B A n c l) : Go.Src Try.prog 5 28 (.slice A n c) n (l.flatMap Code.cellsI) w :=
  SliceOf.src (R := Code.repIns) (f := Code.cellsI) (fun h => h.1) Code.cellsI_one Try.underlying28 h
end
end Go.Proofs.Ytaefgljpdpigeaa.Conf

/- Data that own their memory: a thing is taken out, and may be written over. Over any program. -/
namespace Go.Fb
open Go.RowKit
set_option linter.unusedVariables false
/-- A thing is taken out: its cells stay, what it owns is free. -/
theorem OSl.out {α : Type} {O : ORep α} {w : World} {F : Nat → Prop} {A : Option Addr} {n c : Nat} {L : List (α ⊕ List Value)} (h : OSl O.or w F A n c L) (i : Nat) (hi : i < L.length) {x : α} (hx : L[i] = .inl x) :
    ∃ g o cs, ∃ Fi : Nat → Prop, A = some ⟨g, o, none⟩ ∧ F g ∧ O.own w Fi x cs ∧ (∀ k, Fi k → F k ∧ k ≠ g) ∧ OSl O.or w (fun k => F k ∧ ¬ Fi k) A n c (L.set i (.inr cs)) ∧
      ∀ j, j < O.size → w.cell? ⟨g, o + i * O.size + j, none⟩ = cs[j]? ∧ w.frozen? ⟨g, o + i * O.size + j, none⟩ = false := by
  obtain ⟨r, xs, Fi, h1, h2, h3, h4, h5, h6⟩ := h
  obtain ⟨g, o, e1, e2, hc⟩ := h1.at_index (k := i) (by omega)
  have hown : O.own w (Fi i) x ((xs.drop (i * O.size)).take O.size) := by
    have h := h6 i hi
    rw [hx] at h
    exact h
  refine ⟨g, o, _, Fi i, e2, h3 g e1, hown, fun k e => ⟨(h4 i k e).1, fun e' => (h4 i k e).2 (by rw [e', e1])⟩, ?_, fun j hj => ?_⟩
  · refine ⟨r, xs, fun j k => if j = i then False else Fi j k, h1, by rw [List.length_set]; exact h2, fun k e => ⟨h3 k e, fun e' => (h4 i k e').2 e⟩, fun j k e => ?_, fun j j' k hne e e' => ?_, fun j hj => ?_⟩
    · change (if j = i then False else Fi j k) at e
      by_cases c1 : j = i
      · rw [if_pos c1] at e; exact e.elim
      · rw [if_neg c1] at e
        exact ⟨⟨(h4 j k e).1, fun e' => h5 j i k c1 e e'⟩, (h4 j k e).2⟩
    · change (if j = i then False else Fi j k) at e
      change (if j' = i then False else Fi j' k) at e'
      by_cases c1 : j = i
      · rw [if_pos c1] at e; exact e
      · by_cases c2 : j' = i
        · rw [if_pos c2] at e'; exact e'
        · rw [if_neg c1] at e; rw [if_neg c2] at e'; exact h5 j j' k hne e e'
    · rw [List.length_set] at hj
      by_cases c1 : j = i
      · subst c1
        rw [List.getElem_set_self]
        exact ⟨rfl, O.length hown⟩
      · rw [List.getElem_set_ne (fun e => c1 e.symm)]
        have e1 : (fun k => if j = i then False else Fi j k) = Fi j := by funext k; rw [if_neg c1]
        show O.or.own w (fun k => if j = i then False else Fi j k) _ _
        rw [e1]
        exact h6 j hj
  · obtain ⟨v, q1, q2, q3⟩ := hc j hj
    refine ⟨?_, q3⟩
    rw [drop_take_get hj]
    exact q2.trans q1.symm
/-- All of them are there. -/
theorem OSl.or_of {α : Type} {O : ORep α} {w : World} {F : Nat → Prop} {A : Option Addr} {n c : Nat} {l : List α} (h : OSl O w F A n c l) : OSl O.or w F A n c (l.map .inl) :=
  h.map (S := O.or) rfl (by simp) fun i h1 h2 G cs hG ho => by rw [List.getElem_map]; exact ho
/-- The row alone. -/
theorem OSl.row {α : Type} {O : ORep α} {w : World} {F : Nat → Prop} {A : Option Addr} {n c : Nat} {l : List α} (h : OSl O w F A n c l) : ∃ r xs, Row w O.size r A n c xs ∧ ∀ k, r = some k → F k := by
  obtain ⟨r, xs, Fi, h1, h2, h3, -⟩ := h
  exact ⟨r, xs, h1, h3⟩
/-- Those from i on are there, and are small. -/
def From {α β : Type} (P : α → Prop) (i : Nat) (L : List (α ⊕ β)) : Prop := ∀ j (h : j < L.length), i ≤ j → ∃ x, L[j] = .inl x ∧ P x
theorem From.all {α β : Type} {P : α → Prop} {l : List α} (h : ∀ x ∈ l, P x) : From P 0 (l.map (Sum.inl (β := β))) := fun j hj _ => ⟨l[j]'(by simpa using hj), by simp, h _ (List.getElem_mem _)⟩
theorem From.set {α β : Type} {P : α → Prop} {i : Nat} {L : List (α ⊕ β)} (h : From P i L) (y : α ⊕ β) : From P (i + 1) (L.set i y) := fun j hj hi => by
  rw [List.getElem_set_ne (by omega)]
  exact h j (by simpa using hj) (by omega)
theorem From.set2 {α β : Type} {P : α → Prop} {i : Nat} {L : List (α ⊕ β)} (h : From P i L) (y z : α ⊕ β) : From P (i + 1) ((L.set i y).set i z) := by
  rw [List.set_set]; exact h.set z
end Go.Fb

/- How a config stands while the laws' wreck writes over it (layer 14). Printed by wip/tools/mkKp14.py. -/
namespace Go.Fb
open Go.RowKit
set_option linter.unusedVariables false
/-- A thing is changed where it owns its memory; its own cells stay. -/
theorem OSl.sub {α : Type} {O : ORep α} {w : World} {F : Nat → Prop} {A : Option Addr} {n c : Nat} {l : List α} (h : OSl O w F A n c l) {i : Nat} (hi : i < l.length) : ∃ g o cs Fi, A = some ⟨g, o, none⟩ ∧ F g ∧ ¬ Fi g ∧ (∀ k, Fi k → F k) ∧ O.own w Fi l[i] cs ∧ (∀ j, j < O.size → w.cell? ⟨g, o + i * O.size + j, none⟩ = cs[j]? ∧ w.frozen? ⟨g, o + i * O.size + j, none⟩ = false) ∧
    ∀ (w2 : World) (x : α) (Fx : Nat → Prop), Kept Fi w w2 → O.own w2 Fx x cs → (∀ k, Fx k → Fi k ∨ w.heap.size ≤ k) → (∀ k, F k → k < w.heap.size) → OSl O w2 (fun k => F k ∨ Fx k) A n c (l.set i x) := by
  have hat := h.at_ i hi
  obtain ⟨r, xs, Fi, h1, h2, h3, h4, h5, h6⟩ := h
  obtain ⟨g', o', e1, e2, hc5, hc6⟩ := h1.at_pos (by have := h1.le; omega)
  have hpos := O.pos
  have hlt : i * O.size + O.size ≤ n * O.size := by rw [← Nat.succ_mul]; exact Nat.mul_le_mul_right _ (by omega)
  have hle : n * O.size ≤ c * O.size := Nat.mul_le_mul_right _ h1.le
  refine ⟨g', o', _, Fi i, e2, h3 g' e1, fun e => (h4 i g' e).2 e1, fun k e => (h4 i k e).1, h6 i hi, fun j hj => ⟨?_, ?_⟩, fun w2 x Fx hk hx hFx hFw => ?_⟩
  · rw [drop_take_get hj, Nat.add_assoc]; exact hc5 _ (by omega)
  · rw [Nat.add_assoc]; exact (hc6 _ (by omega)).2
  · refine ⟨r, xs, fun j k => if j = i then Fx k else Fi j k, h1.of_kept O.pos hk fun k e e' => (h4 i k e').2 e, by rw [List.length_set]; exact h2, fun k e => .inl (h3 k e), fun j k e => ?_, fun j j' k hne e e' => ?_, fun j hj => ?_⟩
    · change (if j = i then Fx k else Fi j k) at e
      by_cases c1 : j = i
      · rw [if_pos c1] at e
        refine ⟨.inr e, fun e' => ?_⟩
        rcases hFx k e with e2 | e2
        · exact (h4 i k e2).2 e'
        · have := hFw k (h3 k e'); omega
      · rw [if_neg c1] at e
        exact ⟨.inl (h4 j k e).1, (h4 j k e).2⟩
    · change (if j = i then Fx k else Fi j k) at e
      change (if j' = i then Fx k else Fi j' k) at e'
      by_cases c1 : j = i
      · rw [if_pos c1] at e
        rw [if_neg (by omega)] at e'
        rcases hFx k e with e2 | e2
        · exact h5 i j' k (by omega) e2 e'
        · have := hFw k (h4 _ k e').1; omega
      · rw [if_neg c1] at e
        by_cases c2 : j' = i
        · rw [if_pos c2] at e'
          rcases hFx k e' with e2 | e2
          · exact h5 j i k c1 e e2
          · have := hFw k (h4 _ k e).1; omega
        · rw [if_neg c2] at e'
          exact h5 j j' k hne e e'
    · rw [List.length_set] at hj
      by_cases c1 : j = i
      · subst c1
        rw [List.getElem_set_self]
        have : (fun k => if j = j then Fx k else Fi j k) = Fx := by funext k; rw [if_pos rfl]
        show O.own w2 (fun k => if j = j then Fx k else Fi j k) x _
        rw [this]; exact hx
      · rw [List.getElem_set_ne (by omega)]
        have : (fun k => if j = i then Fx k else Fi j k) = Fi j := by funext k; rw [if_neg c1]
        show O.own w2 (fun k => if j = i then Fx k else Fi j k) _ _
        rw [this]
        exact O.kept (h6 j hj) hk fun k e e' => h5 j i k c1 e e'
/-- The cells of a thing are there, and may be written. -/
theorem OSl.at_some {α : Type} {O : ORep α} {w : World} {F : Nat → Prop} {A : Option Addr} {n c : Nat} {l : List α} (h : OSl O w F A n c l) {i : Nat} (hi : i < l.length) : ∃ g o, A = some ⟨g, o, none⟩ ∧ F g ∧ g < w.heap.size ∧ ∀ t, t < O.size → (w.cell? ⟨g, o + i * O.size + t, none⟩).isSome = true ∧ w.frozen? ⟨g, o + i * O.size + t, none⟩ = false := by
  obtain ⟨r, xs, Fi, h1, h2, h3, h4, h5, h6⟩ := h
  obtain ⟨g', o', e1, e2, hc5, hc6⟩ := h1.at_pos (by have := h1.le; omega)
  have hlt : i * O.size + O.size ≤ n * O.size := by rw [← Nat.succ_mul]; exact Nat.mul_le_mul_right _ (by omega)
  have hle : n * O.size ≤ c * O.size := Nat.mul_le_mul_right _ h1.le
  exact ⟨g', o', e2, h3 g' e1, h1.lt O.pos g' e1, fun t ht => by rw [Nat.add_assoc]; exact hc6 _ (by omega)⟩
/-- A row, as what is appended. -/
theorem Row.src {P : Program} {t e : TypeId} (ht : P.underlying t = some (.slice e)) {w : World} {size : Nat} {r : Option Nat} {A : Option Addr} {n c : Nat} {xs : List Value} (h : Row w size r A n c xs) (h1 : ∀ u ∈ xs, u.oneCell' = true) : Go.Src P size t (.slice A n c) n xs w := by
  have hl := h.length
  by_cases h0 : c = 0
  · subst h0
    have hn : n = 0 := by have := h.le; omega
    subst hn
    obtain rfl : xs = [] := List.eq_nil_of_length_eq_zero (by rw [hl, Nat.zero_mul])
    cases A with
    | none => exact Go.Src.ofNil w ht 0
    | some a => exact Go.Src.ofSlice w ht a 0 0 [] (by simp) (by simp) (by simp)
  · obtain ⟨g, o, e1, rfl, hc5, hc6⟩ := h.at_pos (by omega)
    refine Go.Src.ofSlice w ht ⟨g, o, none⟩ n c xs hl (fun j u hu => ?_) h1
    have hj : j < n * size := by
      rcases Nat.lt_or_ge j xs.length with h | h
      · omega
      · rw [List.getElem?_eq_none h] at hu; cases hu
    rw [add_eq, hc5 j hj]
    exact hu
end Go.Fb
namespace Go.Proofs.Ytaefgljpdpigeaa.Conf
open Go.RowKit Go.Fb Go.CodeP Go.BytesP Go.ReaderP
set_option linter.unusedVariables false
/-- An instruction of a process's program is written over. -/
theorem proc_set {w : World} {F : Nat → Prop} {A : Option Addr} {n c : Nat} {l : List (Int × List Ins)} (h : OSl procO w F A n c l) {i k : Nat} (hi : i < l.length) (hk : k < l[i].2.length) {x : Ins} (hx : Code.Wf x) (hFw : ∀ k, F k → k < w.heap.size) : ∃ g o g' o' cc, A = some ⟨g, o, none⟩ ∧ w.cell? ⟨g, o + i * 2 + 1, none⟩ = some (.slice (some ⟨g', o', none⟩) l[i].2.length cc) ∧
    (∀ t, t < 5 → (w.cell? ⟨g', o' + k * 5 + t, none⟩).isSome = true ∧ w.frozen? ⟨g', o' + k * 5 + t, none⟩ = false) ∧ F g' ∧ OSl procO (w.setCells g' (o' + k * 5) (Code.cellsI x)) F A n c (l.set i (l[i].1, l[i].2.set k x)) := by
  obtain ⟨g, o, cs, Fi, hA, hg, hng, hFi, hown, hc, hput⟩ := h.sub hi
  obtain ⟨Ac, cc, rfl, hos, hwf⟩ := hown
  obtain ⟨g', o', hA', hg', -, hc'⟩ := hos.at_some hk
  subst hA'
  have hset := hos.setCells (i := k) hk rfl (x := x) (cs := Code.cellsI x) (Fx := fun _ => False) (show insO.own w _ x (Code.cellsI x) from ⟨rfl, hx⟩) (fun _ h => h.elim)
  have hkk : Kept Fi w (w.setCells g' (o' + k * insO.size) (Code.cellsI x)) := Kept.setCells _ _ _ (Kept.refl _ _) (.inr hg')
  refine ⟨g, o, g', o', cc, hA, (hc 1 (by decide)).1, hc', hFi g' hg', ?_⟩
  · have := hput _ (l[i].1, l[i].2.set k x) (fun j => Fi j) hkk ⟨some ⟨g', o', none⟩, cc, by rw [List.length_set], by rw [List.length_set]; exact hset.mono (fun j e => by rcases e with e | e; exact e; exact e.elim), hwf⟩ (fun j e => .inl e) hFw
    exact this.mono (fun j e => by rcases e with e | e; exact e; exact hFi j e)
theorem OSl.all_in {α : Type} {O : ORep α} {w : World} {F : Nat → Prop} {A : Option Addr} {n c : Nat} {l : List α} (h : OSl O.or w F A n c (l.map .inl)) : OSl O w F A n c l :=
  h.map (S := O) rfl (by simp) fun i h1 h2 G cs hG ho => by rw [List.getElem_map] at ho; exact ho
/-- An instruction is appended to a process's program. -/
theorem proc_push {w : World} {F : Nat → Prop} {A : Option Addr} {n c : Nat} {l : List (Int × List Ins)} (h : OSl procO w F A n c l) {i : Nat} (hi : i < l.length) {x : Ins} (hx : Code.Wf x) (hFw : ∀ k, F k → k < w.heap.size) : ∃ g o r1 xs1 Ac cc, A = some ⟨g, o, none⟩ ∧ F g ∧ w.cell? ⟨g, o + i * 2 + 1, none⟩ = some (.slice Ac l[i].2.length cc) ∧ w.frozen? ⟨g, o + i * 2 + 1, none⟩ = false ∧
    Row w 5 r1 Ac l[i].2.length cc xs1 ∧ (∀ k, r1 = some k → F k ∧ k ≠ g) ∧ ∀ (w6 : World) (r6 : Option Nat) (A6 : Option Addr) (c6 : Nat), Row w6 5 r6 A6 (l[i].2.length + 1) c6 (xs1 ++ Code.cellsI x) → Kept (fun k => r1 = some k) w w6 → (∀ k, r6 = some k → r1 = some k ∨ w.heap.size ≤ k) →
      OSl procO (w6.setCell ⟨g, o + i * 2 + 1, none⟩ (.slice A6 (l[i].2.length + 1) c6)) (fun k => F k ∨ r6 = some k) A n c (l.set i (l[i].1, l[i].2 ++ [x])) := by
  have hn := h.len
  obtain ⟨g, o, cs, Fi, hA, hg, hown, hFi, hout, hc⟩ := (OSl.or_of h).out i (by rw [List.length_map]; exact hi) (x := l[i]) (by rw [List.getElem_map])
  obtain ⟨Ac, cc, rfl, hos, hwf⟩ := hown
  obtain ⟨r1, xs1, hrow, hr1, hclose⟩ := hos.rows
  have c0 := (hc 0 (by decide)).1
  have c1 := (hc 1 (by decide)).1
  refine ⟨g, o, r1, xs1, Ac, cc, hA, hg, c1, (hc 1 (by decide)).2, hrow, fun k e => hFi k (hr1 k e), fun w6 r6 A6 c6 hr6 hk6 hn6 => ?_⟩
  have hs6 := hk6.size
  have hgl := hFw g hg
  have hnr : ¬ r1 = some g := fun e => (hFi g (hr1 g e)).2 rfl
  have d0 := (hk6.cell (p := ⟨g, o + i * 2 + 0, none⟩) hgl hnr).trans c0
  have d1 := (hk6.cell (p := ⟨g, o + i * 2 + 1, none⟩) hgl hnr).trans c1
  have hk2 : Kept (fun k => k = g) w6 (w6.setCell ⟨g, o + i * 2 + 1, none⟩ (.slice A6 (l[i].2.length + 1) c6)) := Kept.set1 _ _ _ _
  have hout6 := hout.kept hk6 (fun k e e' => e.2 (hr1 k e'))
  have hcode := hclose (F' := fun k => Fi k ∨ r6 = some k) (cs := Code.cellsI x) (x := x) (Fx := fun _ => False) hr6 hk6 hn6 (fun k e => hFw k (hFi k e).1) ⟨rfl, hx⟩ (fun _ e => e.elim) (fun k e => .inl e) (fun _ e => e.elim) (fun k e => .inr e)
  have hr6g : ∀ k, r6 = some k → k ≠ g := fun k e e' => by
    rcases hn6 k e with e2 | e2
    · exact (hFi k (hr1 k e2)).2 e'
    · omega
  have hlen : (l[i].2 ++ [x]).length = l[i].2.length + 1 := by rw [List.length_append]; rfl
  have hne : ∀ a b : Nat, a ≠ b → (⟨g, a, none⟩ : Addr) ≠ ⟨g, b, none⟩ := fun a b h e => h (by injection e)
  have hput := hout6.put (i := i) (by rw [List.length_set, List.length_map]; exact hi) (x := .inl (l[i].1, l[i].2 ++ [x])) (cs := [.int .i64 l[i].1, .slice A6 (l[i].2.length + 1) c6]) (Fx := fun k => Fi k ∨ r6 = some k) hA hk2
    (fun j hj => by
      have hj2 : j < 2 := hj
      rcases (by omega : j = 0 ∨ j = 1) with rfl | rfl
      · show (w6.setCell ⟨g, o + i * 2 + 1, none⟩ _).cell? ⟨g, o + i * 2 + 0, none⟩ = _
        rw [World.cell?_setCell_other _ _ _ _ (hne _ _ (by omega))]; exact d0
      · exact World.cell?_setCell_same' _ _ _ (by rw [d1]; rfl))
    (fun j hj => World.cell?_setCell_other _ _ _ _ (hne _ _ (by
      have : procO.or.size = 2 := rfl
      rw [this] at hj
      omega))) (fun j => by rw [World.frozen?_setCell])
    (show procO.own _ _ _ _ from ⟨A6, c6, by rw [hlen], by rw [hlen]; exact hcode.kept hk2 (fun k e e' => by rcases e with e | e; exact (hFi k e).2 e'; exact hr6g k e e'), hwf⟩)
    (fun k e e' => by
      rcases e with e | e
      · exact e'.2 e
      · rcases hn6 k e with e2 | e2
        · exact e'.2 (hr1 k e2)
        · have := hFw k e'.1; omega)
  rw [List.set_set, ← List.map_set] at hput
  exact (OSl.all_in hput).mono fun k e => by
    rcases e with e | e | e
    · exact .inl e.1
    · exact .inl (hFi k e).1
    · exact .inr e
theorem proc_set2 {w : World} {F : Nat → Prop} {g o n c : Nat} {l : List (Int × List Ins)} (h : OSl procO w F (some ⟨g, o, none⟩) n c l) {i k : Nat} (hi : i < l.length) {part : Int} {code : List Ins} (hq : l[i] = (part, code)) (hk : k < code.length) {x : Ins} (hx : Code.Wf x) (hFw : ∀ k, F k → k < w.heap.size) : ∃ g' o' cc u0 u1 u2 u3 u4, w.cell? ⟨g, o + i * 2 + 1, none⟩ = some (.slice (some ⟨g', o', none⟩) code.length cc) ∧
    w.cell? ⟨g', o' + k * 5, none⟩ = some u0 ∧ w.cell? ⟨g', o' + k * 5 + 1, none⟩ = some u1 ∧ w.cell? ⟨g', o' + k * 5 + 2, none⟩ = some u2 ∧ w.cell? ⟨g', o' + k * 5 + 3, none⟩ = some u3 ∧ w.cell? ⟨g', o' + k * 5 + 4, none⟩ = some u4 ∧
    w.frozen? ⟨g', o' + k * 5, none⟩ = false ∧ w.frozen? ⟨g', o' + k * 5 + 1, none⟩ = false ∧ w.frozen? ⟨g', o' + k * 5 + 2, none⟩ = false ∧ w.frozen? ⟨g', o' + k * 5 + 3, none⟩ = false ∧ w.frozen? ⟨g', o' + k * 5 + 4, none⟩ = false ∧
    Kept F w (((((w.setCell ⟨g', o' + k * 5, none⟩ (.int .i64 x.op)).setCell ⟨g', o' + k * 5 + 1, none⟩ (.int .i64 x.a)).setCell ⟨g', o' + k * 5 + 2, none⟩ (.int .i64 x.b)).setCell ⟨g', o' + k * 5 + 3, none⟩ (.int .i64 x.c)).setCell ⟨g', o' + k * 5 + 4, none⟩ (.int .i64 x.imm)) ∧
    OSl procO (((((w.setCell ⟨g', o' + k * 5, none⟩ (.int .i64 x.op)).setCell ⟨g', o' + k * 5 + 1, none⟩ (.int .i64 x.a)).setCell ⟨g', o' + k * 5 + 2, none⟩ (.int .i64 x.b)).setCell ⟨g', o' + k * 5 + 3, none⟩ (.int .i64 x.c)).setCell ⟨g', o' + k * 5 + 4, none⟩ (.int .i64 x.imm)) F (some ⟨g, o, none⟩) n c (l.set i (part, code.set k x)) := by
  obtain ⟨g0, o0, g', o', cc, hA, h1, h2, h3, h4⟩ := proc_set h hi (k := k) (by rw [hq]; exact hk) hx hFw
  injection hA with e
  injection e with e1 e2
  subst e1; subst e2
  rw [hq] at h1 h4
  obtain ⟨u0, v0⟩ := Option.isSome_iff_exists.1 (h2 0 (by decide)).1
  obtain ⟨u1, v1⟩ := Option.isSome_iff_exists.1 (h2 1 (by decide)).1
  obtain ⟨u2, v2⟩ := Option.isSome_iff_exists.1 (h2 2 (by decide)).1
  obtain ⟨u3, v3⟩ := Option.isSome_iff_exists.1 (h2 3 (by decide)).1
  obtain ⟨u4, v4⟩ := Option.isSome_iff_exists.1 (h2 4 (by decide)).1
  exact ⟨g', o', cc, u0, u1, u2, u3, u4, h1, v0, v1, v2, v3, v4, (h2 0 (by decide)).2, (h2 1 (by decide)).2, (h2 2 (by decide)).2, (h2 3 (by decide)).2, (h2 4 (by decide)).2, (((((Kept.refl _ _).setCell (.inr h3) _).setCell (.inr h3) _).setCell (.inr h3) _).setCell (.inr h3) _).setCell (.inr h3) _, h4⟩
theorem proc_push2 {w : World} {F : Nat → Prop} {g o n c : Nat} {l : List (Int × List Ins)} (h : OSl procO w F (some ⟨g, o, none⟩) n c l) {i : Nat} (hi : i < l.length) {part : Int} {code : List Ins} (hq : l[i] = (part, code)) {x : Ins} (hx : Code.Wf x) (hFw : ∀ k, F k → k < w.heap.size) : ∃ r1 xs1 Ac cc, w.cell? ⟨g, o + i * 2 + 1, none⟩ = some (.slice Ac code.length cc) ∧ Row w 5 r1 Ac code.length cc xs1 ∧ F g ∧ w.frozen? ⟨g, o + i * 2 + 1, none⟩ = false ∧ (∀ k, r1 = some k → F k ∧ k ≠ g) ∧
    ∀ (w6 : World) (r6 : Option Nat) (A6 : Option Addr) (c6 : Nat), Row w6 5 r6 A6 (code.length + 1) c6 (xs1 ++ Code.cellsI x) → Kept (fun k => r1 = some k) w w6 → (∀ k, r6 = some k → r1 = some k ∨ w.heap.size ≤ k) →
      w6.cell? ⟨g, o + i * 2 + 1, none⟩ = some (.slice Ac code.length cc) ∧ w6.frozen? ⟨g, o + i * 2 + 1, none⟩ = false ∧ Kept F w (w6.setCell ⟨g, o + i * 2 + 1, none⟩ (.slice A6 (code.length + 1) c6)) ∧
      OSl procO (w6.setCell ⟨g, o + i * 2 + 1, none⟩ (.slice A6 (code.length + 1) c6)) (fun k => F k ∨ r6 = some k) (some ⟨g, o, none⟩) n c (l.set i (part, code ++ [x])) := by
  obtain ⟨g0, o0, r1, xs1, Ac, cc, hA, h0, h1, h2, h3, h4, h5⟩ := proc_push h hi hx hFw
  injection hA with e
  injection e with e1 e2
  subst e1; subst e2
  rw [hq] at h1 h3 h5
  refine ⟨r1, xs1, Ac, cc, h1, h3, h0, h2, h4, fun w6 r6 A6 c6 a b d => ⟨(b.cell (p := ⟨g, o + i * 2 + 1, none⟩) (hFw g h0) (fun e => (h4 g e).2 rfl)).trans h1, (b.frozen (p := ⟨g, o + i * 2 + 1, none⟩) (hFw g h0) (fun e => (h4 g e).2 rfl)).trans h2, ?_, h5 w6 r6 A6 c6 a b d⟩⟩
  exact (b.mono fun k _ e => (h4 k e).1).setCell (.inr h0) _
/-- How a config stands while it is written over: it lies in block cb, the result in rb; four parts, each in memory of its own. -/
structure Wk (w wr : World) (F : Nat → Prop) (cb rb : Nat) (cs : Array Value) (S0 S1 S2 S3 : Nat → Prop) (Q0 Q1 Q2 Q3 : World → Prop) : Prop where
  blk : Blk wr cb 26 cs
  resB : Blk wr rb 26 zeroC
  q0 : Q0 wr
  q1 : Q1 wr
  q2 : Q2 wr
  q3 : Q3 wr
  k0 : ∀ {G : Nat → Prop} {w1 w2 : World}, Q0 w1 → Kept G w1 w2 → (∀ k, S0 k → ¬ G k) → Q0 w2
  k1 : ∀ {G : Nat → Prop} {w1 w2 : World}, Q1 w1 → Kept G w1 w2 → (∀ k, S1 k → ¬ G k) → Q1 w2
  k2 : ∀ {G : Nat → Prop} {w1 w2 : World}, Q2 w1 → Kept G w1 w2 → (∀ k, S2 k → ¬ G k) → Q2 w2
  k3 : ∀ {G : Nat → Prop} {w1 w2 : World}, Q3 w1 → Kept G w1 w2 → (∀ k, S3 k → ¬ G k) → Q3 w2
  own : ∀ k, S0 k ∨ S1 k ∨ S2 k ∨ S3 k → (F k ∨ w.heap.size ≤ k) ∧ k ≠ cb ∧ k ≠ rb ∧ k < wr.heap.size
  d01 : ∀ k, S0 k → ¬ S1 k
  d02 : ∀ k, S0 k → ¬ S2 k
  d03 : ∀ k, S0 k → ¬ S3 k
  d12 : ∀ k, S1 k → ¬ S2 k
  d13 : ∀ k, S1 k → ¬ S3 k
  d23 : ∀ k, S2 k → ¬ S3 k
  keep : Kept F w wr
section
variable {w wr w2 : World} {F : Nat → Prop} {cb rb : Nat} {cs : Array Value} {S0 S1 S2 S3 S' : Nat → Prop} {Q0 Q1 Q2 Q3 Q' : World → Prop}
theorem Wk.mod0 (h : Wk w wr F cb rb cs S0 S1 S2 S3 Q0 Q1 Q2 Q3) (hk : Kept S0 wr w2) (hq : Q' w2) (hkq : ∀ {G : Nat → Prop} {w1 w2 : World}, Q' w1 → Kept G w1 w2 → (∀ k, S' k → ¬ G k) → Q' w2) (hS : ∀ k, S' k → S0 k ∨ wr.heap.size ≤ k) (hl : ∀ k, S' k → k < w2.heap.size) : Wk w w2 F cb rb cs S' S1 S2 S3 Q' Q1 Q2 Q3 := by
  have hs := hk.size
  have hb := h.blk.lt
  have hr := h.resB.lt
  have hw := h.keep.size
  refine ⟨h.blk.kept hk (fun e => (h.own cb (.inl e)).2.1 rfl), h.resB.kept hk (fun e => (h.own rb (.inl e)).2.2.1 rfl), hq, h.k1 h.q1 hk (fun k e e' => h.d01 k e' e), h.k2 h.q2 hk (fun k e e' => h.d02 k e' e), h.k3 h.q3 hk (fun k e e' => h.d03 k e' e), hkq, h.k1, h.k2, h.k3, fun k e => ?_, fun k e eb => by rcases hS k e with e' | e'; exact h.d01 k e' eb; have := (h.own k (.inr (.inl eb))).2.2.2; omega, fun k e eb => by rcases hS k e with e' | e'; exact h.d02 k e' eb; have := (h.own k (.inr (.inr (.inl eb)))).2.2.2; omega, fun k e eb => by rcases hS k e with e' | e'; exact h.d03 k e' eb; have := (h.own k (.inr (.inr (.inr eb)))).2.2.2; omega, h.d12, h.d13, h.d23, h.keep.step hk fun k hk' e => ?_⟩
  · rcases e with e | e | e | e
    · have hlt := hl k e; rcases hS k e with e' | e'
      · have := h.own k (.inl e'); exact ⟨this.1, this.2.1, this.2.2.1, hlt⟩
      · exact ⟨.inr (by omega), by omega, by omega, hlt⟩
    · have := h.own k (.inr (.inl e)); exact ⟨this.1, this.2.1, this.2.2.1, by omega⟩
    · have := h.own k (.inr (.inr (.inl e))); exact ⟨this.1, this.2.1, this.2.2.1, by omega⟩
    · have := h.own k (.inr (.inr (.inr e))); exact ⟨this.1, this.2.1, this.2.2.1, by omega⟩
  · have := (h.own k (.inl e)).1
    rcases this with e' | e'
    · exact e'
    · omega
theorem Wk.mod1 (h : Wk w wr F cb rb cs S0 S1 S2 S3 Q0 Q1 Q2 Q3) (hk : Kept S1 wr w2) (hq : Q' w2) (hkq : ∀ {G : Nat → Prop} {w1 w2 : World}, Q' w1 → Kept G w1 w2 → (∀ k, S' k → ¬ G k) → Q' w2) (hS : ∀ k, S' k → S1 k ∨ wr.heap.size ≤ k) (hl : ∀ k, S' k → k < w2.heap.size) : Wk w w2 F cb rb cs S0 S' S2 S3 Q0 Q' Q2 Q3 := by
  have hs := hk.size
  have hb := h.blk.lt
  have hr := h.resB.lt
  have hw := h.keep.size
  refine ⟨h.blk.kept hk (fun e => (h.own cb (.inr (.inl e))).2.1 rfl), h.resB.kept hk (fun e => (h.own rb (.inr (.inl e))).2.2.1 rfl), h.k0 h.q0 hk (fun k e e' => h.d01 k e e'), hq, h.k2 h.q2 hk (fun k e e' => h.d12 k e' e), h.k3 h.q3 hk (fun k e e' => h.d13 k e' e), h.k0, hkq, h.k2, h.k3, fun k e => ?_, fun k ea e => by rcases hS k e with e' | e'; exact h.d01 k ea e'; have := (h.own k (.inl ea)).2.2.2; omega, h.d02, h.d03, fun k e eb => by rcases hS k e with e' | e'; exact h.d12 k e' eb; have := (h.own k (.inr (.inr (.inl eb)))).2.2.2; omega, fun k e eb => by rcases hS k e with e' | e'; exact h.d13 k e' eb; have := (h.own k (.inr (.inr (.inr eb)))).2.2.2; omega, h.d23, h.keep.step hk fun k hk' e => ?_⟩
  · rcases e with e | e | e | e
    · have := h.own k (.inl e); exact ⟨this.1, this.2.1, this.2.2.1, by omega⟩
    · have hlt := hl k e; rcases hS k e with e' | e'
      · have := h.own k (.inr (.inl e')); exact ⟨this.1, this.2.1, this.2.2.1, hlt⟩
      · exact ⟨.inr (by omega), by omega, by omega, hlt⟩
    · have := h.own k (.inr (.inr (.inl e))); exact ⟨this.1, this.2.1, this.2.2.1, by omega⟩
    · have := h.own k (.inr (.inr (.inr e))); exact ⟨this.1, this.2.1, this.2.2.1, by omega⟩
  · have := (h.own k (.inr (.inl e))).1
    rcases this with e' | e'
    · exact e'
    · omega
theorem Wk.mod2 (h : Wk w wr F cb rb cs S0 S1 S2 S3 Q0 Q1 Q2 Q3) (hk : Kept S2 wr w2) (hq : Q' w2) (hkq : ∀ {G : Nat → Prop} {w1 w2 : World}, Q' w1 → Kept G w1 w2 → (∀ k, S' k → ¬ G k) → Q' w2) (hS : ∀ k, S' k → S2 k ∨ wr.heap.size ≤ k) (hl : ∀ k, S' k → k < w2.heap.size) : Wk w w2 F cb rb cs S0 S1 S' S3 Q0 Q1 Q' Q3 := by
  have hs := hk.size
  have hb := h.blk.lt
  have hr := h.resB.lt
  have hw := h.keep.size
  refine ⟨h.blk.kept hk (fun e => (h.own cb (.inr (.inr (.inl e)))).2.1 rfl), h.resB.kept hk (fun e => (h.own rb (.inr (.inr (.inl e)))).2.2.1 rfl), h.k0 h.q0 hk (fun k e e' => h.d02 k e e'), h.k1 h.q1 hk (fun k e e' => h.d12 k e e'), hq, h.k3 h.q3 hk (fun k e e' => h.d23 k e' e), h.k0, h.k1, hkq, h.k3, fun k e => ?_, h.d01, fun k ea e => by rcases hS k e with e' | e'; exact h.d02 k ea e'; have := (h.own k (.inl ea)).2.2.2; omega, h.d03, fun k ea e => by rcases hS k e with e' | e'; exact h.d12 k ea e'; have := (h.own k (.inr (.inl ea))).2.2.2; omega, h.d13, fun k e eb => by rcases hS k e with e' | e'; exact h.d23 k e' eb; have := (h.own k (.inr (.inr (.inr eb)))).2.2.2; omega, h.keep.step hk fun k hk' e => ?_⟩
  · rcases e with e | e | e | e
    · have := h.own k (.inl e); exact ⟨this.1, this.2.1, this.2.2.1, by omega⟩
    · have := h.own k (.inr (.inl e)); exact ⟨this.1, this.2.1, this.2.2.1, by omega⟩
    · have hlt := hl k e; rcases hS k e with e' | e'
      · have := h.own k (.inr (.inr (.inl e'))); exact ⟨this.1, this.2.1, this.2.2.1, hlt⟩
      · exact ⟨.inr (by omega), by omega, by omega, hlt⟩
    · have := h.own k (.inr (.inr (.inr e))); exact ⟨this.1, this.2.1, this.2.2.1, by omega⟩
  · have := (h.own k (.inr (.inr (.inl e)))).1
    rcases this with e' | e'
    · exact e'
    · omega
theorem Wk.mod3 (h : Wk w wr F cb rb cs S0 S1 S2 S3 Q0 Q1 Q2 Q3) (hk : Kept S3 wr w2) (hq : Q' w2) (hkq : ∀ {G : Nat → Prop} {w1 w2 : World}, Q' w1 → Kept G w1 w2 → (∀ k, S' k → ¬ G k) → Q' w2) (hS : ∀ k, S' k → S3 k ∨ wr.heap.size ≤ k) (hl : ∀ k, S' k → k < w2.heap.size) : Wk w w2 F cb rb cs S0 S1 S2 S' Q0 Q1 Q2 Q' := by
  have hs := hk.size
  have hb := h.blk.lt
  have hr := h.resB.lt
  have hw := h.keep.size
  refine ⟨h.blk.kept hk (fun e => (h.own cb (.inr (.inr (.inr e)))).2.1 rfl), h.resB.kept hk (fun e => (h.own rb (.inr (.inr (.inr e)))).2.2.1 rfl), h.k0 h.q0 hk (fun k e e' => h.d03 k e e'), h.k1 h.q1 hk (fun k e e' => h.d13 k e e'), h.k2 h.q2 hk (fun k e e' => h.d23 k e e'), hq, h.k0, h.k1, h.k2, hkq, fun k e => ?_, h.d01, h.d02, fun k ea e => by rcases hS k e with e' | e'; exact h.d03 k ea e'; have := (h.own k (.inl ea)).2.2.2; omega, h.d12, fun k ea e => by rcases hS k e with e' | e'; exact h.d13 k ea e'; have := (h.own k (.inr (.inl ea))).2.2.2; omega, fun k ea e => by rcases hS k e with e' | e'; exact h.d23 k ea e'; have := (h.own k (.inr (.inr (.inl ea)))).2.2.2; omega, h.keep.step hk fun k hk' e => ?_⟩
  · rcases e with e | e | e | e
    · have := h.own k (.inl e); exact ⟨this.1, this.2.1, this.2.2.1, by omega⟩
    · have := h.own k (.inr (.inl e)); exact ⟨this.1, this.2.1, this.2.2.1, by omega⟩
    · have := h.own k (.inr (.inr (.inl e))); exact ⟨this.1, this.2.1, this.2.2.1, by omega⟩
    · have hlt := hl k e; rcases hS k e with e' | e'
      · have := h.own k (.inr (.inr (.inr e'))); exact ⟨this.1, this.2.1, this.2.2.1, hlt⟩
      · exact ⟨.inr (by omega), by omega, by omega, hlt⟩
  · have := (h.own k (.inr (.inr (.inr e)))).1
    rcases this with e' | e'
    · exact e'
    · omega
/-- A cell of the config's is written. -/
theorem Wk.store (h : Wk w wr F cb rb cs S0 S1 S2 S3 Q0 Q1 Q2 Q3) (hcw : w.heap.size ≤ cb) (hne : rb ≠ cb) (j : Nat) (v : Value) : Wk w (wr.setCell ⟨cb, j, none⟩ v) F cb rb (cs.setIfInBounds j v) S0 S1 S2 S3 Q0 Q1 Q2 Q3 := by
  have hk := Kept.set1 wr cb j v
  have hs := hk.size
  refine ⟨h.blk.set v, h.resB.kept hk hne, h.k0 h.q0 hk (fun k e => (h.own k (.inl e)).2.1), h.k1 h.q1 hk (fun k e => (h.own k (.inr (.inl e))).2.1), h.k2 h.q2 hk (fun k e => (h.own k (.inr (.inr (.inl e)))).2.1), h.k3 h.q3 hk (fun k e => (h.own k (.inr (.inr (.inr e)))).2.1), h.k0, h.k1, h.k2, h.k3, fun k e => ?_, h.d01, h.d02, h.d03, h.d12, h.d13, h.d23, h.keep.step hk fun k hk' e => by omega⟩
  have := h.own k e
  exact ⟨this.1, this.2.1, this.2.2.1, by omega⟩
/-- Nothing of it was written. -/
theorem Wk.new (h : Wk w wr F cb rb cs S0 S1 S2 S3 Q0 Q1 Q2 Q3) (hk : New wr w2) : Wk w w2 F cb rb cs S0 S1 S2 S3 Q0 Q1 Q2 Q3 := by
  have hs := hk.size
  refine ⟨h.blk.kept hk id, h.resB.kept hk id, h.k0 h.q0 hk (fun _ _ e => e), h.k1 h.q1 hk (fun _ _ e => e), h.k2 h.q2 hk (fun _ _ e => e), h.k3 h.q3 hk (fun _ _ e => e), h.k0, h.k1, h.k2, h.k3, fun k e => ?_, h.d01, h.d02, h.d03, h.d12, h.d13, h.d23, h.keep.step hk fun _ _ e => e.elim⟩
  have := h.own k e
  exact ⟨this.1, this.2.1, this.2.2.1, by omega⟩
end
end Go.Proofs.Ytaefgljpdpigeaa.Conf

/- The walk of the reference's Few (layer 14). -/
namespace Go.Proofs.Ytaefgljpdpigeaa.Conf
open Go.RowKit Go.Fb Go.CodeP Go.BytesP Go.ReaderP
set_option linter.unusedVariables false
/-- A config whose lists are no longer than may be copied. -/
def FewC (c : Cf) : Prop := c.labels.length ≤ 1048576 ∧ c.table.length ≤ 1048576 ∧ c.procs.length ≤ 1048576 ∧ ∀ p ∈ c.procs, p.2.length ≤ 1048576
/-- What is left behind a process. -/
theorem left_step {left : Int} {m : Nat} (h0 : 0 ≤ left) (h1 : left ≤ 1048576) (hm : m ≤ 9223372036854775807) :
    (IntKind.i64.wrap (left - IntKind.i64.wrap (1 + (m : Int))) < 0) ∨ (IntKind.i64.wrap (left - IntKind.i64.wrap (1 + (m : Int))) = left - 1 - m ∧ 0 ≤ left - 1 - (m : Int)) := by
  by_cases h : m = 9223372036854775807
  · subst h
    left
    rw [show IntKind.i64.wrap (1 + ((9223372036854775807 : Nat) : Int)) = -9223372036854775808 from by decide]
    rw [IntKind.wrap_i64]
    omega
  · rw [IntWalk.i64_in (1 + (m : Int)) (by omega)]
    rw [IntWalk.i64_in (left - (1 + (m : Int))) (by omega)]
    omega
/-- What Few answers. -/
def Fewd (w w' : World) (e : Ending) (c : Cf) : Prop := ∃ b : Bool, e = .returned (.bool b) ∧ (b = true → FewC c) ∧ New w w'
section
variable {w : World} {B : Nat} {c : Cf} {Al At Ap : Option Addr} {cl ct cp : Nat}
set_option maxRecDepth 100000 in
set_option maxHeartbeats 2000000 in
theorem few_any (h : ReadC B w c Al cl At ct Ap cp) (hB : B ≤ w.heap.size) : Calls Try.prog 14 #[.agg (confC c Al cl At ct Ap cp).toArray] w fun e w' => Fewd w w' e c := by
  obtain ⟨ls, tb, x2, x3, x4, x5, ps⟩ := c
  obtain ⟨h1, h2, h3⟩ := h
  have b1 := h1.bound
  have b2 := h2.bound
  have b3 := h3.bound
  unfold confC
  simp only at h1 h2 h3 b1 b2 b3 ⊢
  have ka : New w (w.alloc (.cells #[.slice Al ls.length cl, .slice At tb.length ct, .int .i64 x2, .int .i64 x3, .int .i64 x4, .int .i64 x5, .slice Ap ps.length cp] 26)) := (Kept.refl _ _).alloc _
  have hbk := Blk.made w 26 #[.slice Al ls.length cl, .slice At tb.length ct, .int .i64 x2, .int .i64 x3, .int .i64 x4, .int .i64 x5, .slice Ap ps.length cp]
  have h3a := h3.kept ka hB (fun _ _ h => h)
  have y0 := hbk.cell 0
  have y1 := hbk.cell 1
  have y6 := hbk.cell 6
  simp only [List.getElem?_toArray, List.getElem?_cons_zero, List.getElem?_cons_succ] at y0 y1 y6
  have KA := Lib.hid ka
  have H3A := Lib.hid h3a
  clear ka h3a
  clear h1 h2 h3 hbk
  go_enter Try.func14, Try.ntmps14
  go_upto_region 1 with fail
  generalize World.alloc w _ = w1 at *
  by_cases g1 : ls.length ≤ 1048576
  case neg =>
    have g1' : (1048576 : Int) < (ls.length : Int) := by omega
    go_wp2_with fail
    go_ret
    exact ⟨false, rfl, by simp, KA.out⟩
  have g1' : (ls.length : Int) ≤ 1048576 := by omega
  by_cases g2 : tb.length ≤ 1048576
  case neg =>
    have g2' : (1048576 : Int) < (tb.length : Int) := by omega
    go_wp2_with fail
    go_ret
    exact ⟨false, rfl, by simp, KA.out⟩
  have g2' : (tb.length : Int) ≤ 1048576 := by omega
  by_cases g3 : ps.length ≤ 1048576
  case neg =>
    have g3' : (1048576 : Int) < (ps.length : Int) := by omega
    go_wp2_with fail
    go_ret
    exact ⟨false, rfl, by simp, KA.out⟩
  have g3' : (ps.length : Int) ≤ 1048576 := by omega
  go_wp2_with fail
  go_loopw [3, 4] (fun v i wr => ∃ (k : Nat) (left : Int), i = .int .i64 k ∧ v = .int .i64 left ∧ k ≤ ps.length ∧ left ≤ 1048576 ∧ wr = w1 ∧ Hid (0 ≤ left → ∀ p ∈ ps.take k, p.2.length ≤ 1048576)) (fun _ i _ => (ps.length - intOf i).toNat)
  case atStart => exact ⟨0, 1048576, rfl, rfl, Nat.zero_le _, by decide, rfl, Lib.hid fun _ p hp => by rw [List.take_zero] at hp; cases hp⟩
  case round =>
    obtain ⟨k, left, rfl, rfl, hk, hl, rfl, hall⟩ := hrel
    by_cases hlt : k < ps.length
    · by_cases h0 : 0 ≤ left
      · obtain ⟨b, o, rfl, -, hc⟩ := proc_at H3A.out (by omega)
        obtain ⟨Ac, cc, ⟨-, e2⟩, hcode, -⟩ := hc k hlt
        have hcb := hcode.bound
        have htk : ps.take (k + 1) = ps.take k ++ [ps[k]] := List.take_succ_eq_append_getElem hlt
        have hstep := left_step h0 hl (m := ps[k].2.length) (by omega)
        have HNEXT := Lib.hid (fun (h : 0 ≤ IntKind.i64.wrap (left - IntKind.i64.wrap (1 + (ps[k].2.length : Int)))) => show ∀ p ∈ ps.take (k + 1), p.2.length ≤ 1048576 from fun p hp => by
          rw [htk] at hp
          rcases List.mem_append.1 hp with hp | hp
          · exact hall.out h0 p hp
          · rw [List.mem_singleton.1 hp]; omega)
        have hle : IntKind.i64.wrap (left - IntKind.i64.wrap (1 + (ps[k].2.length : Int))) ≤ 1048576 := by omega
        rw [Code.wrap_eq, Code.wrap_eq] at HNEXT hle hstep
        generalize hq : ps[k].2.length = q at *
        generalize hv : wrap64 (left - wrap64 (1 + (q : Int))) = v at *
        clear hc hcode htk hstep hall hq hcb
        by_cases hv0 : 0 ≤ v
        · go_wp2_with fail
          exact ⟨⟨k + 1, v, by go_num, by first | rfl | rw [hv], by omega, hle, by first | rfl | trivial, Lib.hid fun h => HNEXT.out h⟩, by simp [intOf]; omega⟩
        · go_wp2_with fail
          exact ⟨⟨k + 1, v, by go_num, by first | rfl | rw [hv], by omega, hle, by first | rfl | trivial, Lib.hid fun h => HNEXT.out h⟩, by simp [intOf]; omega⟩
      · have h0' : left < 0 := by omega
        clear hall
        go_wp2_with fail
        go_ret
        exact ⟨false, rfl, by simp, KA.out⟩
    · obtain rfl : k = ps.length := by omega
      by_cases h0 : 0 ≤ left
      · have hfin := hall.out h0
        rw [List.take_length] at hfin
        have HFIN := Lib.hid hfin
        clear hfin hall
        go_wp2_with fail
        go_ret
        exact ⟨true, rfl, fun _ => ⟨g1, g2, g3, HFIN.out⟩, KA.out⟩
      · have h0' : left < 0 := by omega
        clear hall
        go_wp2_with fail
        go_ret
        exact ⟨false, rfl, by simp, KA.out⟩
end
end Go.Proofs.Ytaefgljpdpigeaa.Conf

/- The walk of the laws' kept (layer 14): a config is as it was, the room too. -/
namespace Go.Proofs.Ytaefgljpdpigeaa.Conf
open Go.RowKit Go.Fb Go.CodeP Go.BytesP Go.ReaderP
set_option linter.unusedVariables false
theorem u64_made (w : World) (T : TypeId) (l : List Int) (h : ∀ x ∈ l, (Lit.int .u64 x).wf = true) (hl : 0 < l.length) (hm : l.length ≤ 1000) : SliceOf (Rep.int .u64) (w.alloc (.cells (l.flatMap fun x => [Value.int .u64 x]).toArray T)) (w.alloc (.cells (l.flatMap fun x => [Value.int .u64 x]).toArray T)).heap.size (some ⟨w.heap.size, 0, none⟩) l.length l.length l :=
  (Row.of_made (size := 1) (T := T) w (l.flatMap fun x => [Value.int .u64 x]) (c := l.length) (by rw [flatMap_len (size := 1) l (fun _ _ => rfl)]) (by unfold maxLen; omega) hl).slice (R := Rep.int .u64) (by decide) rfl fun x hx => ⟨rfl, h x hx⟩
theorem i64_made (w : World) (T : TypeId) (l : List Int) (h : ∀ x ∈ l, (Lit.int .i64 x).wf = true) (hl : 0 < l.length) (hm : l.length ≤ 1000) : SliceOf (Rep.int .i64) (w.alloc (.cells (l.flatMap fun x => [Value.int .i64 x]).toArray T)) (w.alloc (.cells (l.flatMap fun x => [Value.int .i64 x]).toArray T)).heap.size (some ⟨w.heap.size, 0, none⟩) l.length l.length l :=
  (Row.of_made (size := 1) (T := T) w (l.flatMap fun x => [Value.int .i64 x]) (c := l.length) (by rw [flatMap_len (size := 1) l (fun _ _ => rfl)]) (by unfold maxLen; omega) hl).slice (R := Rep.int .i64) (by decide) rfl fun x hx => ⟨rfl, h x hx⟩
/-- The room behind a list. -/
theorem room_u64 {w : World} {F : Nat → Prop} {A : Option Addr} {c : Nat} {l : List Int} (h : OSl u64O w F A (l.length + 2) c (l ++ [161, 162])) : ∃ g o, A = some ⟨g, o, none⟩ ∧ l.length + 2 ≤ c ∧ c ≤ 9223372036854775807 ∧ SliceOf (Rep.int .u64) w w.heap.size (some ⟨g, o + l.length, none⟩) 2 (c - l.length) [161, 162] := by
  have hb := h.bound
  have hr := h.read reads_u64
  obtain ⟨g, o, rfl, -, -⟩ := hr.ints (by omega)
  have := hr.drop (k := l.length) (by omega)
  rw [List.drop_left, Nat.add_sub_cancel_left, show l.length * (Rep.int .u64).size = l.length from Nat.mul_one _] at this
  exact ⟨g, o, rfl, hb.1, hb.2, this⟩
theorem room_i64 {w : World} {F : Nat → Prop} {A : Option Addr} {c : Nat} {l : List Int} (h : OSl i64O w F A (l.length + 2) c (l ++ [161, 162])) : ∃ g o, A = some ⟨g, o, none⟩ ∧ l.length + 2 ≤ c ∧ c ≤ 9223372036854775807 ∧ SliceOf (Rep.int .i64) w w.heap.size (some ⟨g, o + l.length, none⟩) 2 (c - l.length) [161, 162] := by
  have hb := h.bound
  have hr := h.read reads_i64
  obtain ⟨g, o, rfl, -, -⟩ := hr.ints (by omega)
  have := hr.drop (k := l.length) (by omega)
  rw [List.drop_left, Nat.add_sub_cancel_left, show l.length * (Rep.int .i64).size = l.length from Nat.mul_one _] at this
  exact ⟨g, o, rfl, hb.1, hb.2, this⟩
theorem room_ins {w : World} {F : Nat → Prop} {A : Option Addr} {c : Nat} {l : List Ins} (h : OSl insO w F A (l.length + 2) c (l ++ [m77, m78])) : ∃ g o, A = some ⟨g, o, none⟩ ∧ g < w.heap.size ∧ l.length + 2 ≤ c ∧ c ≤ 9223372036854775807 ∧
    (w.cell? ⟨g, o + l.length * 5, none⟩ = some (.int .i64 77) ∧ w.cell? ⟨g, o + l.length * 5 + 1, none⟩ = some (.int .i64 0) ∧ w.cell? ⟨g, o + l.length * 5 + 2, none⟩ = some (.int .i64 0) ∧ w.cell? ⟨g, o + l.length * 5 + 3, none⟩ = some (.int .i64 0) ∧ w.cell? ⟨g, o + l.length * 5 + 4, none⟩ = some (.int .i64 0)) ∧
    (w.cell? ⟨g, o + (l.length + 1) * 5, none⟩ = some (.int .i64 78) ∧ w.cell? ⟨g, o + (l.length + 1) * 5 + 1, none⟩ = some (.int .i64 0) ∧ w.cell? ⟨g, o + (l.length + 1) * 5 + 2, none⟩ = some (.int .i64 0) ∧ w.cell? ⟨g, o + (l.length + 1) * 5 + 3, none⟩ = some (.int .i64 0) ∧ w.cell? ⟨g, o + (l.length + 1) * 5 + 4, none⟩ = some (.int .i64 0)) := by
  have hb := h.bound
  have hlen : (l ++ [m77, m78]).length = l.length + 2 := by rw [List.length_append]; rfl
  obtain ⟨g0, o0, e0, -, hlt, -⟩ := h.at_some (i := l.length) (by omega)
  obtain ⟨b, o, rfl, -, hc⟩ := Code.ins_at (h.read reads_ins) (by omega)
  injection e0 with e0
  injection e0 with e1 e2
  subst e1; subst e2
  have h7 := hc l.length (by omega)
  have h8 := hc (l.length + 1) (by omega)
  rw [show (l ++ [m77, m78])[l.length]'(by omega) = m77 from by rw [List.getElem_append_right (Nat.le_refl _)]; simp] at h7
  rw [show (l ++ [m77, m78])[l.length + 1]'(by omega) = m78 from by rw [List.getElem_append_right (by omega)]; simp] at h8
  exact ⟨b, o, rfl, hlt, hb.1, hb.2, h7, h8⟩
/-- The cells of a process with room. -/
theorem wproc_cells {w : World} {F : Nat → Prop} {A : Option Addr} {c : Nat} {ps : List (Int × List Ins)} (h : OSl wprocO.or w F A (ps.length + 2) c (ps.map .inl ++ roomP)) : ∃ g o, A = some ⟨g, o, none⟩ ∧ ps.length + 2 ≤ c ∧ c ≤ 9223372036854775807 ∧ w.cell? ⟨g, o + ps.length * 2, none⟩ = some (.int .i64 77) ∧ w.cell? ⟨g, o + ps.length * 2 + 1, none⟩ = some (.slice none 0 0) ∧ w.cell? ⟨g, o + (ps.length + 1) * 2, none⟩ = some (.int .i64 78) ∧ w.cell? ⟨g, o + (ps.length + 1) * 2 + 1, none⟩ = some (.slice none 0 0) ∧
    ∀ i (hi : i < ps.length), ∃ (A' : Option Addr) (c' : Nat) (F' : Nat → Prop), w.cell? ⟨g, o + i * 2 + 1, none⟩ = some (.slice A' ps[i].2.length c') ∧ OSl insO w F' A' (ps[i].2.length + 2) c' (ps[i].2 ++ [m77, m78]) := by
  have hb := h.bound
  have hlen : (ps.map Sum.inl ++ roomP).length = ps.length + 2 := by rw [List.length_append, List.length_map]; rfl
  obtain ⟨g, o, cs, Fi, rfl, -, -, hown, hc⟩ := h.at_ ps.length (by omega)
  rw [show (ps.map Sum.inl ++ roomP)[ps.length]'(by omega) = .inr [.int .i64 77, .slice none 0 0] from by rw [List.getElem_append_right (by rw [List.length_map]; exact Nat.le_refl _)]; simp [roomP]] at hown
  obtain ⟨rfl, -⟩ := hown
  obtain ⟨g', o', cs', Fi', e2, -, -, hown', hc'⟩ := h.at_ (ps.length + 1) (by omega)
  injection e2 with e2
  injection e2 with e3 e4
  subst e3; subst e4
  rw [show (ps.map Sum.inl ++ roomP)[ps.length + 1]'(by omega) = .inr [.int .i64 78, .slice none 0 0] from by rw [List.getElem_append_right (by rw [List.length_map]; omega)]; simp [roomP]] at hown'
  obtain ⟨rfl, -⟩ := hown'
  refine ⟨g, o, rfl, hb.1, hb.2, (hc 0 (by decide)).1, (hc 1 (by decide)).1, (hc' 0 (by decide)).1, (hc' 1 (by decide)).1, fun i hi => ?_⟩
  obtain ⟨g2, o2, cs2, F2, e2, -, -, hown2, hc2⟩ := h.at_ i (by omega)
  injection e2 with e2
  injection e2 with e3 e4
  subst e3; subst e4
  rw [show (ps.map Sum.inl ++ roomP)[i]'(by omega) = .inl ps[i] from by rw [List.getElem_append_left (by rw [List.length_map]; exact hi), List.getElem_map]] at hown2
  obtain ⟨Ad, cd, rfl, hos, -⟩ := hown2
  exact ⟨Ad, cd, F2, (hc2 1 (by decide)).1, hos⟩
end Go.Proofs.Ytaefgljpdpigeaa.Conf

/- The walk of the laws' kept (layer 14): a config is as it was, the room too. -/
namespace Go.Proofs.Ytaefgljpdpigeaa.Conf
open Go.RowKit Go.Fb Go.CodeP Go.BytesP Go.ReaderP
set_option linter.unusedVariables false
section
variable {w : World} {B : Nat} {F : Nat → Prop} {c : Cf} {Dl Dt Dp Al At Ap : Option Addr} {dl dt dp cl ct cp : Nat}
set_option maxRecDepth 100000 in
set_option maxHeartbeats 8000000 in
theorem lawkept_any (hw : WideC w F c Dl dl Dt dt Dp dp) (h : ReadC B w c Al cl At ct Ap cp) (hB : B ≤ w.heap.size) (hfew : FewC c) : Calls Try.prog 16 #[.agg (confC c Dl dl Dt dt Dp dp).toArray, .agg (confC c Al cl At ct Ap cp).toArray] w fun e w' => e = .returned (.bool true) ∧ New w w' := by
  have hsame := fun W (hn : New w W) => same_read (hw.read.news hn (Nat.le_refl _)) ((h.more hB).news hn (Nat.le_refl _)) hn.size
  obtain ⟨ls, tb, x2, x3, x4, x5, ps⟩ := c
  obtain ⟨Fl, Ft, Fp, o1, o2, o3, -, -⟩ := hw
  obtain ⟨r1, r2, r3⟩ := h
  obtain ⟨f1, f2, f3, f4⟩ := hfew
  unfold confC at hsame ⊢
  simp only at o1 o2 o3 r1 r2 r3 f1 f2 f3 f4 hsame ⊢
  obtain ⟨g1, p1, rfl, b1, b1', s1⟩ := room_u64 o1
  obtain ⟨g2, p2, rfl, b2, b2', s2⟩ := room_i64 o2
  obtain ⟨g3, p3, rfl, b3, b3', q0, q1, q2, q3, hcodes⟩ := wproc_cells o3
  have hg3 : g3 < w.heap.size := by
    obtain ⟨g0, o0, e0, -, hlt, -⟩ := o3.at_some (i := ps.length) (by rw [List.length_append, List.length_map]; show ps.length < ps.length + 2; omega)
    injection e0 with e0
    injection e0 with e1 e2
    subst e1
    exact hlt
  have r3b := r3.bound
  have k1 : New w (w.alloc (.cells #[.slice (some ⟨g1, p1, none⟩) ls.length dl, .slice (some ⟨g2, p2, none⟩) tb.length dt, .int .i64 x2, .int .i64 x3, .int .i64 x4, .int .i64 x5, .slice (some ⟨g3, p3, none⟩) ps.length dp] 26)) := (Kept.refl _ _).alloc _
  have b1k := (Blk.made w 26 #[.slice (some ⟨g1, p1, none⟩) ls.length dl, .slice (some ⟨g2, p2, none⟩) tb.length dt, .int .i64 x2, .int .i64 x3, .int .i64 x4, .int .i64 x5, .slice (some ⟨g3, p3, none⟩) ps.length dp]).alloc (.cells #[.slice Al ls.length cl, .slice At tb.length ct, .int .i64 x2, .int .i64 x3, .int .i64 x4, .int .i64 x5, .slice Ap ps.length cp] 26)
  have k2 := k1.alloc (.cells #[.slice Al ls.length cl, .slice At tb.length ct, .int .i64 x2, .int .i64 x3, .int .i64 x4, .int .i64 x5, .slice Ap ps.length cp] 26)
  have b2k := Blk.made (w.alloc (.cells #[.slice (some ⟨g1, p1, none⟩) ls.length dl, .slice (some ⟨g2, p2, none⟩) tb.length dt, .int .i64 x2, .int .i64 x3, .int .i64 x4, .int .i64 x5, .slice (some ⟨g3, p3, none⟩) ps.length dp] 26)) 26 #[.slice Al ls.length cl, .slice At tb.length ct, .int .i64 x2, .int .i64 x3, .int .i64 x4, .int .i64 x5, .slice Ap ps.length cp]
  rw [← size1] at b2k
  have hsl := fun W (hn : New w W) => (by
    have h1 := (s1.kept (hn.trans ((Kept.refl (fun _ => False) W).alloc (.cells ([161, 162].flatMap fun x => [Value.int .u64 x]).toArray 49))) (Nat.le_refl _) (fun _ _ h => h)).more (hn.trans ((Kept.refl (fun _ => False) W).alloc (.cells ([161, 162].flatMap fun x => [Value.int .u64 x]).toArray 49))).size
    have := req_u64 h1 (u64_made W 49 [161, 162] (by intro x hx; simp only [List.mem_cons, List.not_mem_nil, or_false] at hx; rcases hx with rfl | rfl <;> decide) (by decide) (by decide))
    rw [eqb_refl] at this
    exact this : Calls Try.prog 46 #[.slice (some ⟨g1, p1 + ls.length, none⟩) 2 (dl - ls.length), .slice (some ⟨W.heap.size, 0, none⟩) 2 2] (W.alloc (.cells #[.int .u64 161, .int .u64 162] 49)) fun e w' => e = .returned (.bool true) ∧ New (W.alloc (.cells #[.int .u64 161, .int .u64 162] 49)) w')
  have hsi := fun W (hn : New w W) => (by
    have h1 := (s2.kept (hn.trans ((Kept.refl (fun _ => False) W).alloc (.cells ([161, 162].flatMap fun x => [Value.int .i64 x]).toArray 3))) (Nat.le_refl _) (fun _ _ h => h)).more (hn.trans ((Kept.refl (fun _ => False) W).alloc (.cells ([161, 162].flatMap fun x => [Value.int .i64 x]).toArray 3))).size
    have := req_int h1 (i64_made W 3 [161, 162] (by intro x hx; simp only [List.mem_cons, List.not_mem_nil, or_false] at hx; rcases hx with rfl | rfl <;> decide) (by decide) (by decide))
    rw [eqb_refl] at this
    exact this : Calls Try.prog 47 #[.slice (some ⟨g2, p2 + tb.length, none⟩) 2 (dt - tb.length), .slice (some ⟨W.heap.size, 0, none⟩) 2 2] (W.alloc (.cells #[.int .i64 161, .int .i64 162] 3)) fun e w' => e = .returned (.bool true) ∧ New (W.alloc (.cells #[.int .i64 161, .int .i64 162] 3)) w')
  have wn1 : IntKind.i64.wrap ((ls.length : Int) + 2) = (ls.length : Int) + 2 := IntWalk.i64_in _ (by omega)
  have wn2 : IntKind.i64.wrap ((tb.length : Int) + 2) = (tb.length : Int) + 2 := IntWalk.i64_in _ (by omega)
  have wn3 : IntKind.i64.wrap ((ps.length : Int) + 2) = (ps.length : Int) + 2 := IntWalk.i64_in _ (by omega)
  have nd1 : ¬ dl = ls.length := by omega
  have nd2 : ¬ dt = tb.length := by omega
  have HSAME := Lib.hid hsame
  have HSL := Lib.hid hsl
  have HSI := Lib.hid hsi
  have S1 := Lib.hid s1
  have S2 := Lib.hid s2
  have Q0 := Lib.hid q0
  have Q1 := Lib.hid q1
  have Q2 := Lib.hid q2
  have Q3 := Lib.hid q3
  have HCODES := Lib.hid hcodes
  have F4 := Lib.hid f4
  have K2 := Lib.hid k2
  have B1K := Lib.hid b1k
  have B2K := Lib.hid b2k
  have R3 := Lib.hid r3
  clear hsame hsl hsi s1 s2 q0 q1 q2 q3 hcodes f4 k2 b1k b2k r3
  clear r1 r2 o1 o2 o3 k1
  go_enter Try.func16, Try.ntmps16
  go_upto_region 1 with fail
  have k2 := K2.out
  have c1 := B1K.out
  have c2 := B2K.out
  clear K2 B1K B2K
  generalize World.alloc (World.alloc w _) _ = w2 at *
  generalize w.heap.size + 1 = bb at *
  have y0 := c2.cell 0
  have y1 := c2.cell 1
  have y6 := c2.cell 6
  simp only [List.getElem?_toArray, List.getElem?_cons_zero, List.getElem?_cons_succ] at y0 y1 y6
  have HW := Lib.hid (fun W (hW : New w2 W) => show W.cell? ⟨w.heap.size, 0, none⟩ = some (.slice (some ⟨g1, p1, none⟩) ls.length dl) ∧ W.cell? ⟨w.heap.size, 1, none⟩ = some (.slice (some ⟨g2, p2, none⟩) tb.length dt) ∧ W.cell? ⟨w.heap.size, 6, none⟩ = some (.slice (some ⟨g3, p3, none⟩) ps.length dp) ∧ W.cell? ⟨bb, 6, none⟩ = some (.slice Ap ps.length cp) from
    ⟨(c1.kept hW id).cell 0, (c1.kept hW id).cell 1, (c1.kept hW id).cell 6, (c2.kept hW id).cell 6⟩)
  have HC1 := Lib.hid c1
  have HC2 := Lib.hid c2
  have K2 := Lib.hid k2
  clear k2
  clear c1 c2
  go_wp2_with fail
  go_quiet (fail)
  have HD := Lib.hid (fun q => (Kept.refl (fun _ => False) w2).drewN q)
  generalize hW3 : w2.drewN _ = w3
  have hn3 : New w2 w3 := hW3 ▸ HD.out _
  clear hW3 HD y0 y1 y6
  have c1 := HC1.out.kept hn3 id
  have c2 := HC2.out.kept hn3 id
  have y0 := c1.cell 0
  have y1 := c1.cell 1
  have y2 := c1.cell 2
  have y3 := c1.cell 3
  have y4 := c1.cell 4
  have y5 := c1.cell 5
  have y6 := c1.cell 6
  have z0 := c2.cell 0
  have z1 := c2.cell 1
  have z2 := c2.cell 2
  have z3 := c2.cell 3
  have z4 := c2.cell 4
  have z5 := c2.cell 5
  have z6 := c2.cell 6
  simp only [List.getElem?_toArray, List.getElem?_cons_zero, List.getElem?_cons_succ] at y0 y1 y2 y3 y4 y5 y6 z0 z1 z2 z3 z4 z5 z6
  have HN3 := Lib.hid hn3
  clear hn3
  clear c1 c2
  go_upto_region 4 with (first
    | (go_at_call 20
       refine (HSAME.out w3 (K2.out.trans HN3.out)).mono ?_
       rintro e w4 ⟨rfl, hn4⟩
       have hn24 := HN3.out.trans hn4
       obtain ⟨v0, v1, -, -⟩ := HW.out w4 hn24
       have HN4 := Lib.hid hn24
       clear hn24 hn4)
    | (go_at_call 46
       refine (HSL.out w4 (K2.out.trans HN4.out)).mono ?_
       rintro e w5 ⟨rfl, hn5⟩
       have hn25 := (HN4.out.alloc (.cells #[.int .u64 161, .int .u64 162] 49)).trans hn5
       obtain ⟨t0, t1, -, -⟩ := HW.out w5 hn25
       have HN5 := Lib.hid hn25
       clear hn25 hn5)
    | (go_at_call 47
       refine (HSI.out w5 (K2.out.trans HN5.out)).mono ?_
       rintro e w6 ⟨rfl, hn6⟩
       have hn26 := (HN5.out.alloc (.cells #[.int .i64 161, .int .i64 162] 3)).trans hn6
       obtain ⟨-, -, x6, x7⟩ := HW.out w6 hn26
       have HN6 := Lib.hid hn26
       clear hn26 hn6))
  clear y0 y1 y2 y3 y4 y5 y6 z0 z1 z2 z3 z4 z5 z6 v0 v1 t0 t1 HSAME HSL HSI HN3 HN4 HN5
  have hn06 := K2.out.trans HN6.out
  have s0 := (hn06.cell (p := ⟨g3, p3 + ps.length * 2, none⟩) hg3 id).trans Q0.out
  have s1 := (hn06.cell (p := ⟨g3, p3 + ps.length * 2 + 1, none⟩) hg3 id).trans Q1.out
  have s2 := (hn06.cell (p := ⟨g3, p3 + (ps.length + 1) * 2, none⟩) hg3 id).trans Q2.out
  have s3 := (hn06.cell (p := ⟨g3, p3 + (ps.length + 1) * 2 + 1, none⟩) hg3 id).trans Q3.out
  have wn4 : IntKind.i64.wrap ((ps.length : Int) + 1) = (ps.length : Int) + 1 := IntWalk.i64_in _ (by omega)
  have HN06 := Lib.hid hn06
  clear hn06
  go_wp2_with fail
  clear s0 s1 s2 s3 x6 x7
  go_loopw [89] (fun i wz => ∃ k : Nat, i = .int .i64 k ∧ k ≤ ps.length ∧ New w6 wz) (fun i _ => (ps.length - intOf i).toNat)
  case atStart => exact ⟨0, rfl, Nat.zero_le _, Kept.refl _ _⟩
  case round =>
    obtain ⟨k, rfl, hk, hn⟩ := hrel
    have hnr := HN06.out.trans hn
    by_cases hlt : k < ps.length
    · obtain ⟨b, o, rfl, -, hc⟩ := proc_at (R3.out.kept hnr hB (fun _ _ h => h)) (by omega)
      obtain ⟨Ac, cc, ⟨e1, e2⟩, -, -⟩ := hc k hlt
      have hck := HCODES.out k hlt
      have hm := F4.out _ (List.getElem_mem hlt)
      generalize ps[k] = q at *
      obtain ⟨part, code⟩ := q
      simp only at e1 e2 hck hm
      obtain ⟨A', c', F', hcell, hos⟩ := hck
      have kb : New wr (wr.alloc (.cells #[.int .i64 part, .slice Ac code.length cc] 37)) := (Kept.refl _ _).alloc _
      have hpb := Blk.made wr 37 #[.int .i64 part, .slice Ac code.length cc]
      have hnp := hnr.trans kb
      have HN7 := Lib.hid (hn.trans kb)
      have HX := Lib.hid (HW.out _ ((HN6.out.trans hn).trans kb))
      obtain ⟨g4, o4, rfl, hg4, b4, b4', c7, c8⟩ := room_ins (hos.new hnp)
      have hcell2 := (hnp.cell (p := ⟨g3, p3 + k * 2 + 1, none⟩) hg3 id).trans hcell
      have HPB := Lib.hid hpb
      have HCELL2 := Lib.hid hcell2
      have C7 := Lib.hid c7
      have C8 := Lib.hid c8
      clear hpb hcell2 c7 c8
      clear hc hos hn hnr kb hnp hcell
      go_upto_region 10 with fail
      clear e1 e2
      have hpb := HPB.out
      have hcell2 := HCELL2.out
      obtain ⟨a0, a1, a2, a3, a4⟩ := C7.out
      obtain ⟨d0, d1, d2, d3, d4⟩ := C8.out
      obtain ⟨-, -, x6, -⟩ := HX.out
      clear HPB HCELL2 C7 C8 HX
      generalize World.alloc wr _ = wp at *
      generalize wr.heap.size = pb at *
      have y1 := hpb.cell 1
      simp only [List.getElem?_toArray, List.getElem?_cons_zero, List.getElem?_cons_succ] at y1
      have wm : IntKind.i64.wrap ((code.length : Int) + 2) = (code.length : Int) + 2 := IntWalk.i64_in _ (by omega)
      have wm1 : IntKind.i64.wrap ((code.length : Int) + 1) = (code.length : Int) + 1 := IntWalk.i64_in _ (by omega)
      clear hpb
      go_wp2_with fail
      go_quiet (fail)
      go_wp2_with fail
      exact ⟨⟨k + 1, by go_num, by omega, HN7.out.drewN _⟩, by simp [intOf]; omega⟩
    · obtain rfl : k = ps.length := by omega
      have HN7 := Lib.hid hnr
      clear hn hnr
      go_wp2_with fail
      go_ret
      exact ⟨rfl, HN7.out⟩
end
end Go.Proofs.Ytaefgljpdpigeaa.Conf
