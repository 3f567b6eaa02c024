/- A config in memory of its own, with room behind its lists (layer 14): how it lies. -/
import Derived.Test.YtaefgljpdpigeaaConfAw
namespace Go.Fb
open Go.RowKit
set_option linter.unusedVariables false
section
variable {α : Type} {O : ORep α} {w : World} {F : Nat → Prop} {A : Option Addr} {n m c : Nat} {l : List α}
theorem OSl.head (h : OSl O w F A m c l) (hn : n ≤ m) : OSl O w F A n c (l.take n) := by
  obtain ⟨r, xs, Fi, h1, h2, h3, h4, h5, h6⟩ := h
  refine ⟨r, xs.take (n * O.size), Fi, h1.head hn, by rw [List.length_take]; omega, h3, h4, h5, fun i hi => ?_⟩
  rw [List.length_take] at hi
  rw [List.getElem_take]
  have hle : i * O.size + O.size ≤ n * O.size := by rw [← Nat.succ_mul]; exact Nat.mul_le_mul_right _ (by omega)
  have e : ((xs.take (n * O.size)).drop (i * O.size)).take O.size = (xs.drop (i * O.size)).take O.size := by
    rw [List.drop_take, List.take_take]
    congr 1
    omega
  rw [e]
  exact h6 i (by omega)
/-- Things that own nothing, behind the others: what an append leaves. -/
theorem OSl.more (h : OSl O w F A n c l) : ∃ r xs, Row w O.size r A n c xs ∧ (∀ k, r = some k → F k) ∧
    ∀ (w' : World) (r' : Option Nat) (A' : Option Addr) (c' : Nat) (l2 : List α) (ys : List Value) (F' : Nat → Prop), Row w' O.size r' A' (n + l2.length) c' (xs ++ ys) → Kept (fun k => r = some k) w w' → (∀ k, r' = some k → r = some k ∨ w.heap.size ≤ k) → (∀ k, F k → k < w.heap.size) →
      (∀ j (hj : j < l2.length), O.own w' (fun _ => False) l2[j] ((ys.drop (j * O.size)).take O.size)) → (∀ k, F k → F' k) → (∀ k, r' = some k → F' k) → OSl O w' F' A' (n + l2.length) c' (l ++ l2) := by
  obtain ⟨r, xs, Fi, h1, h2, h3, h4, h5, h6⟩ := h
  refine ⟨r, xs, h1, h3, fun w' r' A' c' l2 ys F' hr hk hr' hF hown hF1 hF3 => ?_⟩
  have hxl := h1.length
  refine ⟨r', xs ++ ys, fun i k => i < n ∧ Fi i k, hr, by rw [List.length_append]; omega, hF3, fun i k e => ⟨hF1 k (h4 i k e.2).1, fun e' => ?_⟩, fun i j k hne e e' => h5 i j k hne e.2 e'.2, fun i hi => ?_⟩
  · rcases hr' k e' with h | h
    · exact (h4 i k e.2).2 h
    · have := hF k (h4 i k e.2).1; omega
  · rw [List.length_append] at hi
    by_cases hin : i < n
    · rw [List.getElem_append_left (by omega)]
      have hle : i * O.size + O.size ≤ n * O.size := by rw [← Nat.succ_mul]; exact Nat.mul_le_mul_right _ (by omega)
      have e : ((xs ++ ys).drop (i * O.size)).take O.size = (xs.drop (i * O.size)).take O.size := by
        rw [List.drop_append_of_le_length (by omega), List.take_append_of_le_length (by rw [List.length_drop]; omega)]
      rw [e]
      exact O.mono (O.kept (h6 i (by omega)) hk fun k e e' => (h4 i k e).2 e') fun k e => ⟨hin, e⟩
    · rw [List.getElem_append_right (by omega)]
      have e : (xs ++ ys).drop (i * O.size) = ys.drop ((i - l.length) * O.size) := by
        rw [List.drop_append, List.drop_eq_nil_of_le (by rw [hxl]; exact Nat.mul_le_mul_right _ (by omega)), List.nil_append, hxl, Nat.sub_mul, h2]
      rw [e]
      exact O.mono (hown _ _) fun k e => e.elim
end
/-- append of things that were just built, as one step of a region that draws. -/
theorem step_append_many {P : Program} {W W1 : World} {t e : TypeId} {size bytes : Nat} (ty : SliceTy P t e size bytes) {ops : Array Oper} {o : Oper} {a : Act} {K : Act → World → Prop} {Q : Exit → Act → World → Prop} {E : Prop} (hgd : o.guard = none) (s x : Operand)
    (ho : o.op = .call { callee := .builtin .append, args := #[s, x], argTypes := #[t, t] }) {r : Option Nat} {A : Option Addr} {n c : Nat} {xs : List Value} (hs : a.eval s = .slice A n c) (hrow : Row W size r A n c xs)
    {g m c0 : Nat} {cs : List Value} {T : TypeId} {fr : Nat × Nat} (hW1 : W1 = W.alloc (.cells cs.toArray T fr)) (hg : g = W.heap.size) (hx : a.eval x = .slice (some ⟨g, 0, none⟩) m c0) (hl : cs.length = m * size) (h1 : ∀ u ∈ cs, u.oneCell' = true) (h63 : n + m ≤ maxLen) (hbytes : (n + m) * bytes ≤ 140737488355328)
    (h : ∀ r' A' c' w', Row w' size r' A' (n + m) c' (xs ++ cs) → Kept (fun k => r = some k) W w' → (∀ k, r' = some k → r = some k ∨ W.heap.size ≤ k) → K (a.put o.dst (.slice A' (n + m) c')) w') :
    if Region.wanted o (yielded ops a.tmps) = true then Oper.wp P o a W1 K Q else E := by
  subst hW1
  have hk : New W (W.alloc (.cells cs.toArray T fr)) := (Kept.refl _ _).alloc _
  refine step_append_row ty hgd s x ho hs (hrow.new ty.pos hk) hx (Go.Src.ofSlice _ ty.under _ m c0 cs hl (fun j u hj => ?_) h1) h63 hbytes ?_
  · have hb : (W.alloc (.cells cs.toArray T fr)).heap[W.heap.size]? = some (.cells cs.toArray T fr) := by
      show (W.heap.push _)[W.heap.size]? = _
      simp
    rw [add_eq, Nat.zero_add, hg]
    unfold World.cell?
    simp only [hb]
    simpa using hj
  · intro r' A' c' w' h1 h2 h3
    refine h r' A' c' w' h1 ((hk.mono fun _ _ h => h.elim).trans h2) fun k hk => (h3 k hk).imp id fun h => ?_
    have := (Kept.refl (fun _ => False) W).alloc (.cells cs.toArray T fr) |>.size
    omega
/-- A row that was made, appended to, and appended to again is new. -/
theorem wide_row {w w1 w2 w3 : World} {r0 r2 r3 : Option Nat} (h1 : New w w1) (hr0 : ∀ k, r0 = some k → w.heap.size ≤ k) (hk2 : Kept (fun k => r0 = some k) w1 w2) (hn2 : ∀ k, r2 = some k → r0 = some k ∨ w1.heap.size ≤ k) (hk3 : Kept (fun k => r2 = some k) w2 w3) (hn3 : ∀ k, r3 = some k → r2 = some k ∨ w2.heap.size ≤ k) :
    New w w3 ∧ ∀ k, r3 = some k → w.heap.size ≤ k := by
  have s1 := h1.size
  have s2 := hk2.size
  have hw2 : New w w2 := h1.step hk2 fun i hi e => by have := hr0 i e; omega
  have hr2 : ∀ k, r2 = some k → w.heap.size ≤ k := fun k hk => by
    rcases hn2 k hk with h | h
    · exact hr0 k h
    · omega
  refine ⟨hw2.step hk3 fun i hi e => by have := hr2 i e; omega, fun k hk => ?_⟩
  rcases hn3 k hk with h | h
  · exact hr2 k h
  · omega
end Go.Fb
namespace Go.Proofs.Ytaefgljpdpigeaa.Conf
open Go.RowKit Go.Fb Go.CodeP Go.BytesP Go.ReaderP
set_option linter.unusedVariables false
def m77 : Ins := ⟨77, 0, 0, 0, 0⟩
def m78 : Ins := ⟨78, 0, 0, 0, 0⟩
/-- A process that owns its program's memory, with room behind it. -/
def wprocO : ORep (Int × List Ins) where
  size := 2
  pos := by decide
  own w F x cs := ∃ A c, cs = [.int .i64 x.1, .slice A x.2.length c] ∧ OSl insO w F A (x.2.length + 2) c (x.2 ++ [m77, m78]) ∧ (Lit.int .i64 x.1).wf = true
  length h := by obtain ⟨_, _, h, _⟩ := h; rw [h]; rfl
  kept h hk hg := by obtain ⟨A, c, e, h, h2⟩ := h; exact ⟨A, c, e, h.kept hk hg, h2⟩
  mono h hF := by obtain ⟨A, c, e, h, h2⟩ := h; exact ⟨A, c, e, h.mono hF, h2⟩
def roomP : List ((Int × List Ins) ⊕ List Value) := [.inr [.int .i64 77, .slice none 0 0], .inr [.int .i64 78, .slice none 0 0]]
/-- A config's lists that own their memory, with room behind each. -/
def WideC (w : World) (F : Nat → Prop) (c : Cf) (Al : Option Addr) (cl : Nat) (At : Option Addr) (ct : Nat) (Ap : Option Addr) (cp : Nat) : Prop :=
  ∃ Fl Ft Fp : Nat → Prop, OSl u64O w Fl Al (c.labels.length + 2) cl (c.labels ++ [161, 162]) ∧ OSl i64O w Ft At (c.table.length + 2) ct (c.table ++ [161, 162]) ∧ OSl wprocO.or w Fp Ap (c.procs.length + 2) cp (c.procs.map .inl ++ roomP) ∧ (∀ k, Fl k ∨ Ft k ∨ Fp k → F k) ∧ (∀ k, (Fl k → ¬ Ft k ∧ ¬ Fp k) ∧ (Ft k → ¬ Fp k))
section
variable {w w' : World} {c : Cf} {Al At Ap : Option Addr} {cl ct cp : Nat}
theorem WideC.kept {F G : Nat → Prop} (h : WideC w F c Al cl At ct Ap cp) (hk : Kept G w w') (hg : ∀ k, F k → ¬ G k) : WideC w' F c Al cl At ct Ap cp := by
  obtain ⟨Fl, Ft, Fp, h1, h2, h3, h4, h5⟩ := h
  exact ⟨Fl, Ft, Fp, h1.kept hk (fun k e => hg k (h4 k (.inl e))), h2.kept hk (fun k e => hg k (h4 k (.inr (.inl e)))), h3.kept hk (fun k e => hg k (h4 k (.inr (.inr e)))), h4, h5⟩
theorem OSl.front {α : Type} {O : ORep α} {w : World} {F : Nat → Prop} {A : Option Addr} {n m c : Nat} {l t : List α} (h : OSl O w F A m c (l ++ t)) (hn : n = l.length) : OSl O w F A n c l := by
  have hm := h.len
  rw [List.length_append] at hm
  have := h.head (n := n) (by omega)
  rwa [hn, List.take_left, ← hn] at this
theorem wproc_read {w : World} {F : Nat → Prop} {A : Option Addr} {m c : Nat} {l : List (Int × List Ins)} {t : List ((Int × List Ins) ⊕ List Value)} (h : OSl wprocO.or w F A m c (l.map .inl ++ t)) : OSl procO w F A l.length c l := by
  have h1 := OSl.front (n := l.length) h (by rw [List.length_map])
  refine h1.map rfl (by rw [List.length_map]) fun i g1 g2 G cs hG ho => ?_
  rw [List.getElem_map] at ho
  obtain ⟨A', c', e, h2, h3⟩ := ho
  exact ⟨A', c', e, OSl.front h2 rfl, h3⟩
theorem WideC.read {F : Nat → Prop} (h : WideC w F c Al cl At ct Ap cp) : ReadC w.heap.size w c Al cl At ct Ap cp := by
  obtain ⟨Fl, Ft, Fp, h1, h2, h3, -⟩ := h
  exact ⟨(OSl.front h1 rfl).read reads_u64, (OSl.front h2 rfl).read reads_i64, (wproc_read h3).read reads_proc⟩
theorem u64_src {w : World} {B : Nat} {A : Option Addr} {n c : Nat} {l : List Int} (h : SliceOf (Rep.int .u64) w B A n c l) : Go.Src Try.prog 1 22 (.slice A n c) n (l.flatMap fun x => [.int .u64 x]) w :=
  SliceOf.src (R := Rep.int .u64) (f := fun x => [.int .u64 x]) (fun h => h.1) (by intro x u hu; rw [List.mem_singleton.1 hu]; rfl) Try.underlying22 h
theorem i64_src {w : World} {B : Nat} {A : Option Addr} {n c : Nat} {l : List Int} (h : SliceOf (Rep.int .i64) w B A n c l) : Go.Src Try.prog 1 23 (.slice A n c) n (l.flatMap fun x => [.int .i64 x]) w :=
  SliceOf.src (R := Rep.int .i64) (f := fun x => [.int .i64 x]) (fun h => h.1) (by intro x u hu; rw [List.mem_singleton.1 hu]; rfl) Try.underlying23 h
theorem ins_src {w : World} {B : Nat} {A : Option Addr} {n c : Nat} {l : List Ins} (h : SliceOf Code.repIns w B A n c l) : Go.Src Try.prog 5 28 (.slice A n c) n (l.flatMap Code.cellsI) w :=
  SliceOf.src (R := Code.repIns) (f := Code.cellsI) (fun h => h.1) Code.cellsI_one Try.underlying28 h
end
end Go.Proofs.Ytaefgljpdpigeaa.Conf
